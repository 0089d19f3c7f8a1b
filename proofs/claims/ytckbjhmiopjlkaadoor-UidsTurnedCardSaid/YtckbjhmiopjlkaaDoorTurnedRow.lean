/- The law UidsTurned: for every set, number and last number: a range turned round has the same numbers, and the last number stands for itself. Conditions: the listed package-level variables hold what the program's text lays (tied by the card). -/
import Derived.Test.YtckbjhmiopjlkaaDoorUTurned
import Derived.Test.YtckbjhmiopjlkaaDoorTie
import Derived.Test.YtckbjhmiopjlkaaDoorCards
import Derived.Test.YtckbjhmiopjlkaaDoorAbRow
set_option linter.unusedVariables false
set_option linter.unusedSimpArgs false
namespace Go.Proofs.YtckbjhmiopjlkaaDoor
open Go Go.Ab Go.ChangeShapes Go.WideShapes

theorem own : ownKnob Tryd.prog.godebug = none := by kernel_rfl
theorem laidOut : laidOutB Tryd.prog = true := by kernel_rfl
theorem under4 : Tryd.prog.underlying 4 = some .bool := by kernel_rfl

theorem globs {W : World} (h : laidMetH Tryd.prog Rows.uidsTurnedRow.laid W) (g : Nat) (x : AV) (hx : X.G g = some x) : Rel (St.init W) (.pl x 0) (.pointer (some (ad g 0))) := by
  rw [MakeChecks.laidMetH_plain _ _ _ (by kernel_rfl)] at h
  have hx : gX g = some x := hx
  unfold gX at hx
  split at hx
  · rename_i p hp
    have hm := List.mem_of_find?_eq_some hp
    have hg := List.find?_some hp
    cases hx
    obtain rfl := Nat.eq_of_beq_eq_true hg
    simp only [gL, List.mem_cons, List.not_mem_nil, or_false] at hm
    rcases hm with rfl | rfl
    · exact glob_junk h (n := "strconv.ErrSyntax") (d := Rows.laid_strconv_ErrSyntax) (List.mem_of_getElem? (i := 5) rfl) (by kernel_rfl) (t := 67) (by kernel_rfl) (by kernel_rfl)
    · exact glob_junk h (n := "strconv.ErrRange") (d := Rows.laid_strconv_ErrRange) (List.mem_of_getElem? (i := 4) rfl) (by kernel_rfl) (t := 67) (by kernel_rfl) (by kernel_rfl)
  · cases hx

theorem leaf_int {k : IntKind} {c : AV} (h : leafIs (.int k) c) : ∃ n, c = AV.v (.int k n) := by
  have h : ∃ n, c = AV.v (.int k n) ∧ (Lit.int k n).wf = true := h
  exact h.imp fun n h => h.1
set_option maxRecDepth 100000 in
/-- A slice of ranges, read as data. -/
theorem ranges {H : Type} {enc : TypeId × Value → H} {w : World} {base : Nat} {spare : Nat → Bool} {held : Bool} {v : Value} {d : DataW H} {ps : List MemPlace} (h : DataW.Trod enc Tryd.prog w base spare held 22 v d ps) :
    ∃ b l, rdSl Tryd.prog 4 25 d = .lst 2 b (rowsOf l) := by
  have hc : Tryd.prog.cellsOf 25 = 2 := by kernel_rfl
  rcases trodSl_fit (n := 4) under22 (by kernel_rfl) h with h1 | ⟨elems, h1, h2⟩
  · exact ⟨true, [], by rw [h1, hc]; rfl⟩
  · rw [h1, hc]
    refine ⟨false, ?_⟩
    clear h1
    induction elems with
    | nil => exact ⟨[], rfl⟩
    | cons x xs ih =>
      obtain ⟨l, hl⟩ := ih fun y hy => h2 y (List.mem_cons_of_mem _ hy)
      have f0 := h2 x List.mem_cons_self
      rw [show (shOf Tryd.prog 4 25).cells = [.int .i64, .int .i64] by kernel_rfl] at f0
      have e : rdAV Tryd.prog 4 25 x = .agg (rdCells Tryd.prog 4 25 x) := by
        unfold rdAV
        rw [show kindT Tryd.prog 25 = some true by kernel_rfl]
        rfl
      obtain ⟨_, _, e1, q1, g1⟩ := fitL_cons f0
      obtain ⟨_, _, rfl, q2, g2⟩ := fitL_cons g1
      obtain rfl := fitL_nil g2
      obtain ⟨a, rfl⟩ := leaf_int q1
      obtain ⟨c, rfl⟩ := leaf_int q2
      refine ⟨(a, c) :: l, ?_⟩
      injection hl with _ _ hl
      show AV.lst 2 false (rdAV Tryd.prog 4 25 x :: xs.map fun x => rdAV Tryd.prog 4 25 x) = _
      rw [hl, e, e1]
      rfl
set_option maxRecDepth 100000 in
theorem lifted (os : Os) (started : os.Started) (H : Type) (enc : TypeId × Value → H) :
    ReturnsInHanded {} Tryd.checked os 3 .any (fun w args => (Rows.uidsTurnedSpec.pre enc Tryd.prog Tryd.f3 [] false w args ∧ laidMetH Tryd.prog Rows.uidsTurnedRow.laid w) ∧ sizedMet enc Tryd.prog Tryd.f3 (OpenSpec.ofChange Rows.uidsTurnedSpec) false w args)
      (Rows.uidsTurnedSpec.post enc Tryd.prog Tryd.f3 false true false false) := by
  refine returnsInHanded_of_change_and (C := Tryd.checked) (X := fun w _ => laidMetH Tryd.prog Rows.uidsTurnedRow.laid w) (fun _ _ _ hh h => h.of_heap hh) own started (by kernel_rfl) Tryd.func3
    (ChangeSpec.witness_shaped (enc := enc) (C := Tryd.checked) (os := os) (X := fun w _ => laidMetH Tryd.prog Rows.uidsTurnedRow.laid w) false (World.laidAll Tryd.prog os Rows.uidsTurnedRow.laid) #[.slice none 0 0, .int .i64 0, .int .i64 0] 8 (World.laidAll_os _ _ _)
      (World.shaped_of_ZipB (by kernel_rfl) (by kernel_rfl)) (by kernel_rfl) (by kernel_rfl) (by kernel_rfl)
      (by rw [MakeChecks.laidMetH_plain _ _ _ (by kernel_rfl)]; exact laidMet_laidAll _ (by kernel_rfl) (by kernel_rfl))) ?_
  intro W base args ds gs before hval0 hW _ _ hL _
  have hval : ∀ (j : Nat) t v, Tryd.f3.params[j]? = some t → args[j]? = some v → Value.okWide Tryd.prog W .any base t v := hval0
  have hW' := hW
  obtain ⟨p, q, hA0, hV, rfl, _, _⟩ := hW
  have hA : DataW.TrodAll enc Tryd.prog W 0 (fun _ => true) true Tryd.f3.params.toList args.toList ds p := hA0
  rw [Tryd.params3] at hA hval
  obtain ⟨v0, v1, v2, d0, d1, d2, p0, p1, p2, rfl, rfl, rfl, h0, h1, h2⟩ := trodAll_three hA
  obtain ⟨rfl, rfl⟩ := trodVars_none hV
  have r0 := trodSl_rel (n := 4) under22 (by kernel_rfl) (by rw [show Tryd.prog.cellsOf 25 = 2 by kernel_rfl]; decide) (hval 0 22 v0 rfl rfl) h0
  have r1 := trod_rel (St.init W) (n := 4) (by kernel_rfl) (hval 1 3 v1 rfl rfl) h1
  have r2 := trod_rel (St.init W) (n := 4) (by kernel_rfl) (hval 2 3 v2 rfl rfl) h2
  have f1 := Trod_fit (n := 4) (by kernel_rfl) h1
  have f2 := Trod_fit (n := 4) (by kernel_rfl) h2
  rw [show (shOf Tryd.prog 4 3).cells = [.int .i64] by kernel_rfl] at f1 f2
  unfold rdAV at r1 r2
  rw [show kindT Tryd.prog 3 = some false by kernel_rfl] at r1 r2
  generalize rdCells Tryd.prog 4 3 d1 = l1 at r1 f1
  generalize rdCells Tryd.prog 4 3 d2 = l2 at r2 f2
  obtain ⟨_, _, rfl, q1, g1⟩ := fitL_cons f1
  obtain ⟨n, rfl⟩ := leaf_int q1
  obtain rfl := fitL_nil g1
  obtain ⟨_, _, rfl, q2, g2⟩ := fitL_cons f2
  obtain ⟨last, rfl⟩ := leaf_int q2
  obtain rfl := fitL_nil g2
  obtain ⟨b, l, e0⟩ := ranges h0
  rw [e0] at r0
  have hpc : PureCall X 3 [.lst 2 b (rowsOf l), iv n, iv last] (bv true) := pclaw09_UidsTurned (tab_ok _ tbTu_ok) l_tu (t_turned b l n last)
  refine (law_calls hpc Tryd.func3 (c := Tryd.f3.body.getD .skip) (by kernel_rfl) (by kernel_rfl) (globs hL) (rels_3 r0 r1 r2)).mono fun e W' ⟨he, k1, k2, k3, k4⟩ => ?_
  subst he
  exact ⟨_, rfl, law_post (tb := 4) laidOut (by
    intro t ht
    have ht : t ∈ [22, 3, 3] := ht
    simp only [List.mem_cons, List.not_mem_nil, or_false] at ht
    rcases ht with rfl | rfl | rfl
    · exact ⟨by kernel_rfl, of_decide_eq_true (by kernel_rfl)⟩
    · exact ⟨by kernel_rfl, of_decide_eq_true (by kernel_rfl)⟩
    · exact ⟨by kernel_rfl, of_decide_eq_true (by kernel_rfl)⟩) (by kernel_rfl) under4 rfl rfl rfl hW' ⟨k1, k2, k3, k4⟩⟩

theorem uidsTurned_row : Rows.UidsTurnedSaid :=
  OpenClaim.holds_of_wide 3 Tryd.f3 rfl rfl rfl rfl rfl rfl rfl ⟨rfl, rfl, rfl, rfl, rfl⟩ rfl rfl rfl rfl rfl (by kernel_rfl) Tryd.func3 (by kernel_rfl)
    (of_decide_eq_true (by kernel_rfl)) (by unfold Func.isWrapper; first | (rw [if_pos (by decide +kernel)]; kernel_rfl) | (rw [if_neg (by decide +kernel)]; exact ⟨rfl, rfl⟩))
    (fun os started H enc _ => lifted os started H enc)

theorem uidsTurned_holds : Rows.UidsTurnedCardSaid :=
  Claim7.holds_tied_plain_at .later [] [.data, .data, .data, .data, .sentinel, .sentinel, .pinned] true (true, "96b4c685969ccc9de67b3b78a33c52f2ea5e5eee1dd4d6319a7d73a54f4b3189") true
    uidsTurned_row (fun _ h => by cases h) (by kernel_rfl) (fun _ h => by cases h) uidsTurned_row_tie rfl ⟨rfl, rfl⟩ (by kernel_rfl) rfl
    (fun f fn hf hfn => by
      obtain rfl : f = 3 := Option.some.inj ((show Tryd.prog.funcNamed "escheat/escheatlaw09.UidsTurned" = some 3 by kernel_rfl).symm.trans hf) |>.symm
      obtain rfl : fn = Tryd.f3 := (Option.some.inj (Tryd.func3.symm.trans hfn)).symm
      exact ⟨by kernel_rfl, fun j t ht => by
        rw [Tryd.params3] at ht
        have hm : t ∈ [22, 3, 3] := by simpa using Array.mem_of_getElem? ht
        have hall : ([22, 3, 3].all fun u => !Tryd.prog.wantsStandIn u) = true := by kernel_rfl
        exact (show Tryd.prog.wantsStandIn t = false by simpa using List.all_eq_true.1 hall t hm)⟩)
    (by kernel_rfl)
#print axioms uidsTurned_holds
end Go.Proofs.YtckbjhmiopjlkaaDoor
