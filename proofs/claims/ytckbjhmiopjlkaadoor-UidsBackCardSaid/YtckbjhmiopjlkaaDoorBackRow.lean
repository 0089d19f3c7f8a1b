/- The law UidsBack: what is printed is parsed as it was, and what is parsed has just that text. Conditions: the listed package-level variables hold what the program's text lays (tied by the card). -/
import Derived.Test.YtckbjhmiopjlkaaDoorUTextsLaw
import Derived.Test.YtckbjhmiopjlkaaDoorURowB
import Derived.Test.YtckbjhmiopjlkaaDoorTie
import Derived.Test.YtckbjhmiopjlkaaDoorCards
import Derived.Test.YtckbjhmiopjlkaaDoorAbRow
set_option linter.unusedVariables false
set_option linter.unusedSimpArgs false
namespace Go.Proofs.YtckbjhmiopjlkaaDoor
open Go Go.Ab Go.ChangeShapes Go.WideShapes

theorem globs {W : World} (h : laidMetH Tryd.prog Rows.uidsBackRow.laid W) (g : Nat) (x : AV) (hx : X.G g = some x) : GlobOk (St.init W) g x := by
  rw [MakeChecks.laidMetH_plain _ _ _ (by kernel_rfl)] at h
  have hx : gX g = some x := hx
  unfold gX at hx
  split at hx
  · rename_i p hp
    have hm := List.mem_of_find?_eq_some hp
    have hg := List.find?_some hp
    cases hx
    obtain rfl := Nat.eq_of_beq_eq_true hg
    simp only [gL, List.mem_cons, List.not_mem_nil, or_false] at hm
    rcases hm with rfl | rfl | rfl
    · exact glob_junk h (n := "strconv.ErrSyntax") (d := Rows.laid_strconv_ErrSyntax) (List.mem_of_getElem? (i := 5) rfl) (by kernel_rfl) (t := 67) (by kernel_rfl) (by kernel_rfl)
    · exact glob_junk h (n := "strconv.ErrRange") (d := Rows.laid_strconv_ErrRange) (List.mem_of_getElem? (i := 4) rfl) (by kernel_rfl) (t := 67) (by kernel_rfl) (by kernel_rfl)
    · exact glob_rel h (n := "internal/strconv.uint64pow10") (d := Rows.laid_internal_strconv_uint64pow10) (k := 3) (List.mem_of_getElem? (i := 2) rfl) (by kernel_rfl) (t := 115) (by kernel_rfl) (by kernel_rfl) (by kernel_rfl)
  · cases hx

set_option maxRecDepth 100000 in
theorem lifted (os : Os) (started : os.Started) (H : Type) (enc : TypeId × Value → H) :
    ReturnsInHanded {} Tryd.checked os 7 .any (fun w args => (Rows.uidsBackSpec.pre enc Tryd.prog Tryd.f7 [] false w args ∧ laidMetH Tryd.prog Rows.uidsBackRow.laid w) ∧ sizedMet enc Tryd.prog Tryd.f7 (OpenSpec.ofChange Rows.uidsBackSpec) false w args)
      (Rows.uidsBackSpec.post enc Tryd.prog Tryd.f7 false true false false) := by
  refine returnsInHanded_of_change_and (C := Tryd.checked) (X := fun w _ => laidMetH Tryd.prog Rows.uidsBackRow.laid w) (fun _ _ _ hh h => h.of_heap hh) own started (by kernel_rfl) Tryd.func7
    (ChangeSpec.witness_shaped (enc := enc) (C := Tryd.checked) (os := os) (X := fun w _ => laidMetH Tryd.prog Rows.uidsBackRow.laid w) false (World.laidAll Tryd.prog os Rows.uidsBackRow.laid) #[.slice none 0 0, .string ⟨#[]⟩] 8 (World.laidAll_os _ _ _)
      (World.shaped_of_ZipB (by kernel_rfl) (by kernel_rfl)) (by kernel_rfl) (by kernel_rfl) (by kernel_rfl)
      (by rw [MakeChecks.laidMetH_plain _ _ _ (by kernel_rfl)]; exact laidMet_laidAll _ (by kernel_rfl) (by kernel_rfl))) ?_
  intro W base args ds gs before hval0 hW _ _ hL _
  have hval : ∀ (j : Nat) t v, Tryd.f7.params[j]? = some t → args[j]? = some v → Value.okWide Tryd.prog W .any base t v := hval0
  have hW' := hW
  obtain ⟨p, q, hA0, hV, rfl, _, _⟩ := hW
  have hA : DataW.TrodAll enc Tryd.prog W 0 (fun _ => true) true Tryd.f7.params.toList args.toList ds p := hA0
  rw [Tryd.params7] at hA hval
  obtain ⟨v0, v1, d0, d1, p0, p1, rfl, rfl, rfl, h0, h1⟩ := trodAll_two hA
  obtain ⟨rfl, rfl⟩ := trodVars_none hV
  have r0 := trodSl_rel (n := 4) under22 (by kernel_rfl) (by rw [show Tryd.prog.cellsOf 25 = 2 by kernel_rfl]; decide) (hval 0 22 v0 rfl rfl) h0
  have r1 := trod_rel (St.init W) (n := 4) (by kernel_rfl) (hval 1 9 v1 rfl rfl) h1
  have f1 := Trod_fit (n := 4) (by kernel_rfl) h1
  rw [show (shOf Tryd.prog 4 9).cells = [.str] by kernel_rfl] at f1
  unfold rdAV at r1
  rw [show kindT Tryd.prog 9 = some false by kernel_rfl] at r1
  generalize rdCells Tryd.prog 4 9 d1 = l1 at r1 f1
  obtain ⟨_, _, rfl, q1, g1⟩ := fitL_cons f1
  obtain ⟨s0, rfl, _⟩ := q1
  obtain rfl := fitL_nil g1
  obtain ⟨s, rfl⟩ := exists_bs s0
  obtain ⟨b, l, e0⟩ := ranges h0
  rw [e0] at r0
  have hpc : PureCall X 7 [.lst 2 b (rowsOf l), sv (bs s)] (bv true) := pclaw09_UidsBack (tab_ok _ tbLt_ok) (t_back b l s)
  refine (law_calls hpc Tryd.func7 (c := Tryd.f7.body.getD .skip) (by kernel_rfl) (by kernel_rfl) (globs hL) (rels_2 r0 r1)).mono fun e W' ⟨he, k1, k2, k3, k4⟩ => ?_
  subst he
  exact ⟨_, rfl, law_post (tb := 4) laidOut (by
    intro t ht
    have ht : t ∈ [22, 9] := ht
    simp only [List.mem_cons, List.not_mem_nil, or_false] at ht
    rcases ht with rfl | rfl
    · exact ⟨by kernel_rfl, of_decide_eq_true (by kernel_rfl)⟩
    · exact ⟨by kernel_rfl, of_decide_eq_true (by kernel_rfl)⟩) (by kernel_rfl) under4 rfl rfl rfl hW' ⟨k1, k2, k3, k4⟩⟩

theorem uidsBack_row : Rows.UidsBackSaid :=
  OpenClaim.holds_of_wide 7 Tryd.f7 rfl rfl rfl rfl rfl rfl rfl ⟨rfl, rfl, rfl, rfl, rfl⟩ rfl rfl rfl rfl rfl (by kernel_rfl) Tryd.func7 (by kernel_rfl)
    (of_decide_eq_true (by kernel_rfl)) (by unfold Func.isWrapper; first | (rw [if_pos (by decide +kernel)]; kernel_rfl) | (rw [if_neg (by decide +kernel)]; exact ⟨rfl, rfl⟩))
    (fun os started H enc _ => lifted os started H enc)

theorem uidsBack_holds : Rows.UidsBackCardSaid :=
  Claim7.holds_tied_plain_at .later [] [.data, .data, .data, .data, .sentinel, .sentinel, .pinned] true (true, "96b4c685969ccc9de67b3b78a33c52f2ea5e5eee1dd4d6319a7d73a54f4b3189") true
    uidsBack_row (fun _ h => by cases h) (by kernel_rfl) (fun _ h => by cases h) uidsBack_row_tie rfl ⟨rfl, rfl⟩ (by kernel_rfl) rfl
    (fun f fn hf hfn => by
      obtain rfl : f = 7 := Option.some.inj ((show Tryd.prog.funcNamed "escheat/escheatlaw09.UidsBack" = some 7 by kernel_rfl).symm.trans hf) |>.symm
      obtain rfl : fn = Tryd.f7 := (Option.some.inj (Tryd.func7.symm.trans hfn)).symm
      exact ⟨by kernel_rfl, fun j t ht => by
        rw [Tryd.params7] at ht
        have hm : t ∈ [22, 9] := by simpa using Array.mem_of_getElem? ht
        have hall : ([22, 9].all fun u => !Tryd.prog.wantsStandIn u) = true := by kernel_rfl
        exact (show Tryd.prog.wantsStandIn t = false by simpa using List.all_eq_true.1 hall t hm)⟩)
    (by kernel_rfl)
#print axioms uidsBack_holds
end Go.Proofs.YtckbjhmiopjlkaaDoor
