/- The law DateZones: a printed time with another zone, or a month in other letters, is parsed as it says. Conditions: the listed package-level variables hold what the program's text lays (tied by the card). -/
import Derived.Test.YtmiffikcnkgcpaaDoorDateZonesLaw
import Derived.Test.YtmiffikcnkgcpaaDoorTie
import Derived.Test.YtmiffikcnkgcpaaDoorCards
import Derived.Test.YtmiffikcnkgcpaaDoorAbRow
set_option linter.unusedVariables false
set_option linter.unusedSimpArgs false
namespace Go.Proofs.YtmiffikcnkgcpaaDoor
open Go Go.Ab Go.ChangeShapes Go.WideShapes

theorem own : ownKnob Tryd.prog.godebug = none := by kernel_rfl
theorem laidOut : laidOutB Tryd.prog = true := by kernel_rfl
theorem under4 : Tryd.prog.underlying 4 = some .bool := by kernel_rfl

theorem globs {W : World} (h : laidMetH Tryd.prog Rows.dateZonesRow.laid W) (g : Nat) (x : AV) (hx : X.G g = some x) : Rel (St.init W) (.pl x 0) (.pointer (some (ad g 0))) := by
  rw [MakeChecks.laidMetH_plain _ _ _ (by kernel_rfl)] at h
  have hx : gX g = some x := hx
  unfold gX at hx
  split at hx
  · rename_i p hp
    have hm := List.mem_of_find?_eq_some hp
    have hg := List.find?_some hp
    cases hx
    obtain rfl := Nat.eq_of_beq_eq_true hg
    simp only [gL, List.mem_cons, List.not_mem_nil, or_false] at hm
    rcases hm with rfl | rfl
    · exact glob_rel h (n := "escheat/date.names") (d := Rows.laid_escheat_date_names) (k := 3) (List.mem_of_getElem? (i := 8) rfl) (by kernel_rfl) (t := 36) (by kernel_rfl) (by kernel_rfl) (by kernel_rfl)
    · exact glob_rel h (n := "escheat/date.ahead") (d := Rows.laid_escheat_date_ahead) (k := 3) (List.mem_of_getElem? (i := 9) rfl) (by kernel_rfl) (t := 51) (by kernel_rfl) (by kernel_rfl) (by kernel_rfl)
  · cases hx

theorem leaf_u8 {c : AV} (h : leafIs (.int .u8) c) : ∃ n, c = AV.v (.int .u8 n) ∧ 0 ≤ n ∧ n < 256 := by
  have h : ∃ n, c = AV.v (.int .u8 n) ∧ (Lit.int .u8 n).wf = true := h
  obtain ⟨n, h1, h2⟩ := h
  refine ⟨n, h1, ?_⟩
  simp only [Lit.wf, Bool.and_eq_true, decide_eq_true_eq] at h2
  exact ⟨Int.le_trans (by decide) h2.1, Int.lt_of_le_of_lt h2.2 (by decide)⟩
theorem leaf_int {k : IntKind} {c : AV} (h : leafIs (.int k) c) : ∃ n, c = AV.v (.int k n) := by
  have h : ∃ n, c = AV.v (.int k n) ∧ (Lit.int k n).wf = true := h
  exact h.imp fun n h => h.1
set_option maxRecDepth 100000 in
theorem lifted (os : Os) (started : os.Started) (H : Type) (enc : TypeId × Value → H) :
    ReturnsInHanded {} Tryd.checked os 3 .any (fun w args => (Rows.dateZonesSpec.pre enc Tryd.prog Tryd.f3 [] false w args ∧ laidMetH Tryd.prog Rows.dateZonesRow.laid w) ∧ sizedMet enc Tryd.prog Tryd.f3 (OpenSpec.ofChange Rows.dateZonesSpec) false w args)
      (Rows.dateZonesSpec.post enc Tryd.prog Tryd.f3 false true false false) := by
  refine returnsInHanded_of_change_and (C := Tryd.checked) (X := fun w _ => laidMetH Tryd.prog Rows.dateZonesRow.laid w) (fun _ _ _ hh h => h.of_heap hh) own started (by kernel_rfl) Tryd.func3
    (ChangeSpec.witness_shaped (enc := enc) (C := Tryd.checked) (os := os) (X := fun w _ => laidMetH Tryd.prog Rows.dateZonesRow.laid w) false (World.laidAll Tryd.prog os Rows.dateZonesRow.laid) #[.int .i64 0, .int .u8 0] 8 (World.laidAll_os _ _ _)
      (World.shaped_of_ZipB (by kernel_rfl) (by kernel_rfl)) (by kernel_rfl) (by kernel_rfl) (by kernel_rfl)
      (by rw [MakeChecks.laidMetH_plain _ _ _ (by kernel_rfl)]; exact laidMet_laidAll _ (by kernel_rfl) (by kernel_rfl))) ?_
  intro W base args ds gs before hval0 hW _ _ hL _
  have hval : ∀ (j : Nat) t v, Tryd.f3.params[j]? = some t → args[j]? = some v → Value.okWide Tryd.prog W .any base t v := hval0
  have hW' := hW
  obtain ⟨p, q, hA0, hV, rfl, _, _⟩ := hW
  have hA : DataW.TrodAll enc Tryd.prog W 0 (fun _ => true) true Tryd.f3.params.toList args.toList ds p := hA0
  rw [Tryd.params3] at hA hval
  obtain ⟨v0, v1, d0, d1, p0, p1, rfl, rfl, rfl, h0, h1⟩ := trodAll_two hA
  obtain ⟨rfl, rfl⟩ := trodVars_none hV
  have r0 := trod_rel (St.init W) (n := 4) (by kernel_rfl) (hval 0 3 v0 rfl rfl) h0
  have r1 := trod_rel (St.init W) (n := 4) (by kernel_rfl) (hval 1 5 v1 rfl rfl) h1
  have f0 := Trod_fit (n := 4) (by kernel_rfl) h0
  have f1 := Trod_fit (n := 4) (by kernel_rfl) h1
  rw [show (shOf Tryd.prog 4 3).cells = [.int .i64] by kernel_rfl] at f0
  rw [show (shOf Tryd.prog 4 5).cells = [.int .u8] by kernel_rfl] at f1
  unfold rdAV at r0 r1
  rw [show kindT Tryd.prog 3 = some false by kernel_rfl] at r0
  rw [show kindT Tryd.prog 5 = some false by kernel_rfl] at r1
  generalize rdCells Tryd.prog 4 3 d0 = l0 at r0 f0
  generalize rdCells Tryd.prog 4 5 d1 = l1 at r1 f1
  obtain ⟨_, _, rfl, q1, g1⟩ := fitL_cons f0
  obtain ⟨t, rfl⟩ := leaf_int q1
  obtain rfl := fitL_nil g1
  obtain ⟨_, _, rfl, q2, g2⟩ := fitL_cons f1
  obtain ⟨u, rfl, hu⟩ := leaf_u8 q2
  obtain rfl := fitL_nil g2
  have hpc : PureCall X 3 [iv t, uv u] (bv true) := pclaw07_DateZones (tab_ok _ tbZo_ok) loopZ_ok (t_zones t u hu.1 hu.2)
  refine (law_calls hpc Tryd.func3 (c := Tryd.f3.body.getD .skip) (by kernel_rfl) (by kernel_rfl) (globs hL) (rels_2 r0 r1)).mono fun e W' ⟨he, k1, k2, k3, k4⟩ => ?_
  subst he
  exact ⟨_, rfl, law_post (tb := 4) laidOut (by
    intro t ht
    have ht : t ∈ [3, 5] := ht
    simp only [List.mem_cons, List.not_mem_nil, or_false] at ht
    rcases ht with rfl | rfl
    · exact ⟨by kernel_rfl, of_decide_eq_true (by kernel_rfl)⟩
    · exact ⟨by kernel_rfl, of_decide_eq_true (by kernel_rfl)⟩) (by kernel_rfl) under4 rfl rfl rfl hW' ⟨k1, k2, k3, k4⟩⟩

theorem dateZones_row : Rows.DateZonesSaid :=
  OpenClaim.holds_of_wide 3 Tryd.f3 rfl rfl rfl rfl rfl rfl rfl ⟨rfl, rfl, rfl, rfl, rfl⟩ rfl rfl rfl rfl rfl (by kernel_rfl) Tryd.func3 (by kernel_rfl)
    (of_decide_eq_true (by kernel_rfl)) (by unfold Func.isWrapper; first | (rw [if_pos (by decide +kernel)]; kernel_rfl) | (rw [if_neg (by decide +kernel)]; exact ⟨rfl, rfl⟩))
    (fun os started H enc _ => lifted os started H enc)

theorem dateZones_holds : Rows.DateZonesCardSaid :=
  Claim7.holds_tied_plain_at .later [] [.data, .data, .data, .data, .sentinel, .sentinel, .data, .data, .data, .data, .pinned, .pinned] true (true, "b66ab81bb81d9d38bbd88d7cd9475d6ab484b771c0779910d2b962a6177c305b") true
    dateZones_row (fun _ h => by cases h) (by kernel_rfl) (fun _ h => by cases h) dateZones_row_tie rfl ⟨rfl, rfl⟩ (by kernel_rfl) rfl
    (fun f fn hf hfn => by
      obtain rfl : f = 3 := Option.some.inj ((show Tryd.prog.funcNamed "escheat/escheatlaw07.DateZones" = some 3 by kernel_rfl).symm.trans hf) |>.symm
      obtain rfl : fn = Tryd.f3 := (Option.some.inj (Tryd.func3.symm.trans hfn)).symm
      exact ⟨by kernel_rfl, fun j t ht => by
        rw [Tryd.params3] at ht
        have hm : t ∈ [3, 5] := by simpa using Array.mem_of_getElem? ht
        have hall : ([3, 5].all fun u => !Tryd.prog.wantsStandIn u) = true := by kernel_rfl
        exact (show Tryd.prog.wantsStandIn t = false by simpa using List.all_eq_true.1 hall t hm)⟩)
    (by kernel_rfl)
#print axioms dateZones_holds
end Go.Proofs.YtmiffikcnkgcpaaDoor
