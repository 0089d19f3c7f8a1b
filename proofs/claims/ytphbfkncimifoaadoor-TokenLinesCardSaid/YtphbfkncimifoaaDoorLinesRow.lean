/- The law TokenLines: lines of plain words, and literals, are told as they were meant; of up to 20. Conditions: the listed package-level variables hold what the program's text lays (tied by the card). -/
import Derived.Test.YtphbfkncimifoaaDoorTokWXY
import Derived.Test.YtphbfkncimifoaaDoorTokRowZ
import Derived.Test.YtphbfkncimifoaaDoorTie
import Derived.Test.YtphbfkncimifoaaDoorCards
import Derived.Test.YtphbfkncimifoaaDoorAbRow
set_option linter.unusedVariables false
set_option linter.unusedSimpArgs false
namespace Go.Proofs.YtphbfkncimifoaaDoor
open Go Go.Ab Go.ChangeShapes Go.WideShapes

theorem globs {W : World} (h : laidMetH Tryd.prog Rows.tokenLinesRow.laid W) (g : Nat) (x : AV) (hx : X.G g = some x) : GlobOk (St.init W) g x := by
  rw [MakeChecks.laidMetH_plain _ _ _ (by kernel_rfl)] at h
  exact globsOf h (List.mem_of_getElem? (i := 4) rfl) (List.mem_of_getElem? (i := 5) rfl) g x hx

set_option maxRecDepth 100000 in
theorem lifted (os : Os) (started : os.Started) (H : Type) (enc : TypeId × Value → H) :
    ReturnsInHanded {} Tryd.checked os 4 .any (fun w args => (Rows.tokenLinesSpec.pre enc Tryd.prog Tryd.f4 [] false w args ∧ laidMetH Tryd.prog Rows.tokenLinesRow.laid w) ∧ sizedMet enc Tryd.prog Tryd.f4 (OpenSpec.ofChange Rows.tokenLinesSpec) false w args)
      (Rows.tokenLinesSpec.post enc Tryd.prog Tryd.f4 false true false false) := by
  refine returnsInHanded_of_change_and (C := Tryd.checked) (X := fun w _ => laidMetH Tryd.prog Rows.tokenLinesRow.laid w) (fun _ _ _ hh h => h.of_heap hh) own started (by kernel_rfl) Tryd.func4
    (ChangeSpec.witness_shaped (enc := enc) (C := Tryd.checked) (os := os) (X := fun w _ => laidMetH Tryd.prog Rows.tokenLinesRow.laid w) false (World.laidAll Tryd.prog os Rows.tokenLinesRow.laid) #[.slice none 0 0, .slice none 0 0] 8 (World.laidAll_os _ _ _)
      (World.shaped_of_ZipB (by kernel_rfl) (by kernel_rfl)) (by kernel_rfl) (by kernel_rfl) (by kernel_rfl)
      (by rw [MakeChecks.laidMetH_plain _ _ _ (by kernel_rfl)]; exact laidMet_laidAll _ (by kernel_rfl) (by kernel_rfl))) ?_
  intro W base args ds gs before hval0 hW _ _ hL _
  have hval : ∀ (j : Nat) t v, Tryd.f4.params[j]? = some t → args[j]? = some v → Value.okWide Tryd.prog W .any base t v := hval0
  have hW' := hW
  obtain ⟨p, q, hA0, hV, rfl, _, _⟩ := hW
  have hA : DataW.TrodAll enc Tryd.prog W 0 (fun _ => true) true Tryd.f4.params.toList args.toList ds p := hA0
  rw [Tryd.params4] at hA hval
  obtain ⟨v0, v1, d0, d1, p0, p1, rfl, rfl, rfl, h0, h1⟩ := trodAll_two hA
  obtain ⟨rfl, rfl⟩ := trodVars_none hV
  have r0 := read_rel (n := 4) (by kernel_rfl) (hval 0 25 v0 rfl rfl) h0
  obtain ⟨wn, ws, e0⟩ := words_arg h0
  rw [e0] at r0
  have r1 := read_rel (n := 4) (by kernel_rfl) (hval 1 35 v1 rfl rfl) h1
  obtain ⟨ln, ls, e1⟩ := lits_arg h1
  rw [e1] at r1
  have hpc : PureCall X 4 [.lst 1 wn (svL ws), .lst 1 ln (ls.map litAV)] (bv true) := t_Lines wn ws ln ls
  refine (law_calls hpc Tryd.func4 (c := Tryd.f4.body.getD .skip) (by kernel_rfl) (by kernel_rfl) (globs hL) (rels_2 r0 r1)).mono fun e W' ⟨he, k1, k2, k3, k4⟩ => ?_
  subst he
  exact ⟨_, rfl, law_post (tb := 4) laidOut (by
    intro t ht
    have ht : t ∈ [25, 35] := ht
    simp only [List.mem_cons, List.not_mem_nil, or_false] at ht
    rcases ht with rfl | rfl
    · exact ⟨by kernel_rfl, of_decide_eq_true (by kernel_rfl)⟩
    · exact ⟨by kernel_rfl, of_decide_eq_true (by kernel_rfl)⟩) (by kernel_rfl) under4 rfl rfl rfl hW' ⟨k1, k2, k3, k4⟩⟩

theorem tokenLines_row : Rows.TokenLinesSaid :=
  OpenClaim.holds_of_wide 4 Tryd.f4 rfl rfl rfl rfl rfl rfl rfl ⟨rfl, rfl, rfl, rfl, rfl⟩ rfl rfl rfl rfl rfl (by kernel_rfl) Tryd.func4 (by kernel_rfl)
    (of_decide_eq_true (by kernel_rfl)) (by unfold Func.isWrapper; first | (rw [if_pos (by decide +kernel)]; kernel_rfl) | (rw [if_neg (by decide +kernel)]; exact ⟨rfl, rfl⟩))
    (fun os started H enc _ => lifted os started H enc)

theorem tokenLines_holds : Rows.TokenLinesCardSaid :=
  Claim7.holds_tied_plain_at .later [] [.data, .data, .data, .data, .sentinel, .sentinel, .pinned] true (true, "426c488752a5a2461248d5dfac4f63578310dd7ee3f192409507e93251a91326") true
    tokenLines_row (fun _ h => by cases h) (by kernel_rfl) (fun _ h => by cases h) tokenLines_row_tie rfl ⟨rfl, rfl⟩ (by kernel_rfl) rfl
    (fun f fn hf hfn => by
      obtain rfl : f = 4 := Option.some.inj ((show Tryd.prog.funcNamed "escheat/escheatlaw23.TokenLines" = some 4 by kernel_rfl).symm.trans hf) |>.symm
      obtain rfl : fn = Tryd.f4 := (Option.some.inj (Tryd.func4.symm.trans hfn)).symm
      exact ⟨by kernel_rfl, fun j t ht => by
        rw [Tryd.params4] at ht
        have hm : t ∈ [25, 35] := by simpa using Array.mem_of_getElem? ht
        have hall : ([25, 35].all fun u => !Tryd.prog.wantsStandIn u) = true := by kernel_rfl
        exact (show Tryd.prog.wantsStandIn t = false by simpa using List.all_eq_true.1 hall t hm)⟩)
    (by kernel_rfl)
#print axioms tokenLines_holds
end Go.Proofs.YtphbfkncimifoaaDoor
