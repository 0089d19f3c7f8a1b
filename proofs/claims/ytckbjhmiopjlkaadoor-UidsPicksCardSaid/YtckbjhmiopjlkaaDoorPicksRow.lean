/- The law UidsPicks: any number is in any set, and any rising numbers are picked, and made a set, as the document says. Conditions: the listed package-level variables hold what the program's text lays (tied by the card). -/
import Derived.Test.YtckbjhmiopjlkaaDoorUPicksLaw
import Derived.Test.YtckbjhmiopjlkaaDoorURow
import Derived.Test.YtckbjhmiopjlkaaDoorTie
import Derived.Test.YtckbjhmiopjlkaaDoorCards
import Derived.Test.YtckbjhmiopjlkaaDoorAbRow
set_option linter.unusedVariables false
set_option linter.unusedSimpArgs false
namespace Go.Proofs.YtckbjhmiopjlkaaDoor
open Go Go.Ab Go.ChangeShapes Go.WideShapes

theorem globs {W : World} (h : laidMetH Tryd.prog Rows.uidsPicksRow.laid W) (g : Nat) (x : AV) (hx : X.G g = some x) : Rel (St.init W) (.pl x 0) (.pointer (some (ad g 0))) := by
  rw [MakeChecks.laidMetH_plain _ _ _ (by kernel_rfl)] at h
  have hx : gX g = some x := hx
  unfold gX at hx
  split at hx
  · rename_i p hp
    have hm := List.mem_of_find?_eq_some hp
    have hg := List.find?_some hp
    cases hx
    obtain rfl := Nat.eq_of_beq_eq_true hg
    simp only [gL, List.mem_cons, List.not_mem_nil, or_false] at hm
    rcases hm with rfl | rfl
    · exact glob_junk h (n := "strconv.ErrSyntax") (d := Rows.laid_strconv_ErrSyntax) (List.mem_of_getElem? (i := 5) rfl) (by kernel_rfl) (t := 67) (by kernel_rfl) (by kernel_rfl)
    · exact glob_junk h (n := "strconv.ErrRange") (d := Rows.laid_strconv_ErrRange) (List.mem_of_getElem? (i := 4) rfl) (by kernel_rfl) (t := 67) (by kernel_rfl) (by kernel_rfl)
  · cases hx

set_option maxRecDepth 100000 in
theorem lifted (os : Os) (started : os.Started) (H : Type) (enc : TypeId × Value → H) :
    ReturnsInHanded {} Tryd.checked os 4 .any (fun w args => (Rows.uidsPicksSpec.pre enc Tryd.prog Tryd.f4 [] false w args ∧ laidMetH Tryd.prog Rows.uidsPicksRow.laid w) ∧ sizedMet enc Tryd.prog Tryd.f4 (OpenSpec.ofChange Rows.uidsPicksSpec) false w args)
      (Rows.uidsPicksSpec.post enc Tryd.prog Tryd.f4 false true false false) := by
  refine returnsInHanded_of_change_and (C := Tryd.checked) (X := fun w _ => laidMetH Tryd.prog Rows.uidsPicksRow.laid w) (fun _ _ _ hh h => h.of_heap hh) own started (by kernel_rfl) Tryd.func4
    (ChangeSpec.witness_shaped (enc := enc) (C := Tryd.checked) (os := os) (X := fun w _ => laidMetH Tryd.prog Rows.uidsPicksRow.laid w) false (World.laidAll Tryd.prog os Rows.uidsPicksRow.laid) #[.slice none 0 0, .slice none 0 0, .agg #[.int .i64 0, .int .i64 0]] 8 (World.laidAll_os _ _ _)
      (World.shaped_of_ZipB (by kernel_rfl) (by kernel_rfl)) (by kernel_rfl) (by kernel_rfl) (by kernel_rfl)
      (by rw [MakeChecks.laidMetH_plain _ _ _ (by kernel_rfl)]; exact laidMet_laidAll _ (by kernel_rfl) (by kernel_rfl))) ?_
  intro W base args ds gs before hval0 hW _ _ hL _
  have hval : ∀ (j : Nat) t v, Tryd.f4.params[j]? = some t → args[j]? = some v → Value.okWide Tryd.prog W .any base t v := hval0
  have hW' := hW
  obtain ⟨p, q, hA0, hV, rfl, _, _⟩ := hW
  have hA : DataW.TrodAll enc Tryd.prog W 0 (fun _ => true) true Tryd.f4.params.toList args.toList ds p := hA0
  rw [Tryd.params4] at hA hval
  obtain ⟨v0, v1, v2, d0, d1, d2, p0, p1, p2, rfl, rfl, rfl, h0, h1, h2⟩ := trodAll_three hA
  obtain ⟨rfl, rfl⟩ := trodVars_none hV
  have r0 := trodSl_rel (n := 4) under22 (by kernel_rfl) (by rw [show Tryd.prog.cellsOf 25 = 2 by kernel_rfl]; decide) (hval 0 22 v0 rfl rfl) h0
  have r1 := trodSl_rel (n := 4) under27 (by kernel_rfl) (by rw [show Tryd.prog.cellsOf 3 = 1 by kernel_rfl]; decide) (hval 1 27 v1 rfl rfl) h1
  have r2 := trod_rel (St.init W) (n := 4) (by kernel_rfl) (hval 2 28 v2 rfl rfl) h2
  have f2 := Trod_fit (n := 4) (by kernel_rfl) h2
  rw [show (shOf Tryd.prog 4 28).cells = [.int .i64, .int .i64] by kernel_rfl] at f2
  unfold rdAV at r2
  rw [show kindT Tryd.prog 28 = some true by kernel_rfl] at r2
  generalize rdCells Tryd.prog 4 28 d2 = l2 at r2 f2
  obtain ⟨_, _, rfl, q2, g2⟩ := fitL_cons f2
  obtain ⟨x, rfl⟩ := leaf_int q2
  obtain ⟨_, _, rfl, q3, g3⟩ := fitL_cons g2
  obtain ⟨y, rfl⟩ := leaf_int q3
  obtain rfl := fitL_nil g3
  obtain ⟨b, l, e0⟩ := ranges h0
  rw [e0] at r0
  obtain ⟨c, ns, e1, hc⟩ := numbers h1
  rw [e1] at r1
  have hpc : PureCall X 4 [.lst 2 b (rowsOf l), .lst 1 c (ivs ns), .agg [iv x, iv y]] (bv true) := pclaw09_UidsPicks (tab_ok _ tbLp_ok) (t_picks b l c ns x y hc)
  refine (law_calls hpc Tryd.func4 (c := Tryd.f4.body.getD .skip) (by kernel_rfl) (by kernel_rfl) (globs hL) (rels_3 r0 r1 r2)).mono fun e W' ⟨he, k1, k2, k3, k4⟩ => ?_
  subst he
  exact ⟨_, rfl, law_post (tb := 4) laidOut (by
    intro t ht
    have ht : t ∈ [22, 27, 28] := ht
    simp only [List.mem_cons, List.not_mem_nil, or_false] at ht
    rcases ht with rfl | rfl | rfl
    · exact ⟨by kernel_rfl, of_decide_eq_true (by kernel_rfl)⟩
    · exact ⟨by kernel_rfl, of_decide_eq_true (by kernel_rfl)⟩
    · exact ⟨by kernel_rfl, of_decide_eq_true (by kernel_rfl)⟩) (by kernel_rfl) under4 rfl rfl rfl hW' ⟨k1, k2, k3, k4⟩⟩

theorem uidsPicks_row : Rows.UidsPicksSaid :=
  OpenClaim.holds_of_wide 4 Tryd.f4 rfl rfl rfl rfl rfl rfl rfl ⟨rfl, rfl, rfl, rfl, rfl⟩ rfl rfl rfl rfl rfl (by kernel_rfl) Tryd.func4 (by kernel_rfl)
    (of_decide_eq_true (by kernel_rfl)) (by unfold Func.isWrapper; first | (rw [if_pos (by decide +kernel)]; kernel_rfl) | (rw [if_neg (by decide +kernel)]; exact ⟨rfl, rfl⟩))
    (fun os started H enc _ => lifted os started H enc)

theorem uidsPicks_holds : Rows.UidsPicksCardSaid :=
  Claim7.holds_tied_plain_at .later [] [.data, .data, .data, .data, .sentinel, .sentinel, .pinned] true (true, "96b4c685969ccc9de67b3b78a33c52f2ea5e5eee1dd4d6319a7d73a54f4b3189") true
    uidsPicks_row (fun _ h => by cases h) (by kernel_rfl) (fun _ h => by cases h) uidsPicks_row_tie rfl ⟨rfl, rfl⟩ (by kernel_rfl) rfl
    (fun f fn hf hfn => by
      obtain rfl : f = 4 := Option.some.inj ((show Tryd.prog.funcNamed "escheat/escheatlaw09.UidsPicks" = some 4 by kernel_rfl).symm.trans hf) |>.symm
      obtain rfl : fn = Tryd.f4 := (Option.some.inj (Tryd.func4.symm.trans hfn)).symm
      exact ⟨by kernel_rfl, fun j t ht => by
        rw [Tryd.params4] at ht
        have hm : t ∈ [22, 27, 28] := by simpa using Array.mem_of_getElem? ht
        have hall : ([22, 27, 28].all fun u => !Tryd.prog.wantsStandIn u) = true := by kernel_rfl
        exact (show Tryd.prog.wantsStandIn t = false by simpa using List.all_eq_true.1 hall t hm)⟩)
    (by kernel_rfl)
#print axioms uidsPicks_holds
end Go.Proofs.YtckbjhmiopjlkaaDoor
