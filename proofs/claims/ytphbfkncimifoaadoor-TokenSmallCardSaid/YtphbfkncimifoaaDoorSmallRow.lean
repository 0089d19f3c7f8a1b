/- The law TokenSmall: whatever comes, a reader keeps at most 400 bytes of a text, and 2000 of a literal. Conditions: the listed package-level variables hold what the program's text lays (tied by the card). -/
import Derived.Test.YtphbfkncimifoaaDoorTokM
import Derived.Test.YtphbfkncimifoaaDoorTokRow
import Derived.Test.YtphbfkncimifoaaDoorTie
import Derived.Test.YtphbfkncimifoaaDoorCards
import Derived.Test.YtphbfkncimifoaaDoorAbRow
set_option linter.unusedVariables false
set_option linter.unusedSimpArgs false
namespace Go.Proofs.YtphbfkncimifoaaDoor
open Go Go.Ab Go.ChangeShapes Go.WideShapes

theorem globs {W : World} (h : laidMetH Tryd.prog Rows.tokenSmallRow.laid W) (g : Nat) (x : AV) (hx : X.G g = some x) : GlobOk (St.init W) g x := by
  rw [MakeChecks.laidMetH_plain _ _ _ (by kernel_rfl)] at h
  exact globsOf h (List.mem_of_getElem? (i := 4) rfl) (List.mem_of_getElem? (i := 5) rfl) g x hx

set_option maxRecDepth 100000 in
theorem lifted (os : Os) (started : os.Started) (H : Type) (enc : TypeId × Value → H) :
    ReturnsInHanded {} Tryd.checked os 5 .any (fun w args => (Rows.tokenSmallSpec.pre enc Tryd.prog Tryd.f5 [] false w args ∧ laidMetH Tryd.prog Rows.tokenSmallRow.laid w) ∧ sizedMet enc Tryd.prog Tryd.f5 (OpenSpec.ofChange Rows.tokenSmallSpec) false w args)
      (Rows.tokenSmallSpec.post enc Tryd.prog Tryd.f5 false true false false) := by
  refine returnsInHanded_of_change_and (C := Tryd.checked) (X := fun w _ => laidMetH Tryd.prog Rows.tokenSmallRow.laid w) (fun _ _ _ hh h => h.of_heap hh) own started (by kernel_rfl) Tryd.func5
    (ChangeSpec.witness_shaped (enc := enc) (C := Tryd.checked) (os := os) (X := fun w _ => laidMetH Tryd.prog Rows.tokenSmallRow.laid w) false (World.laidAll Tryd.prog os Rows.tokenSmallRow.laid) #[.slice none 0 0] 8 (World.laidAll_os _ _ _)
      (World.shaped_of_ZipB (by kernel_rfl) (by kernel_rfl)) (by kernel_rfl) (by kernel_rfl) (by kernel_rfl)
      (by rw [MakeChecks.laidMetH_plain _ _ _ (by kernel_rfl)]; exact laidMet_laidAll _ (by kernel_rfl) (by kernel_rfl))) ?_
  intro W base args ds gs before hval0 hW _ _ hL _
  have hval : ∀ (j : Nat) t v, Tryd.f5.params[j]? = some t → args[j]? = some v → Value.okWide Tryd.prog W .any base t v := hval0
  have hW' := hW
  obtain ⟨p, q, hA0, hV, rfl, _, _⟩ := hW
  have hA : DataW.TrodAll enc Tryd.prog W 0 (fun _ => true) true Tryd.f5.params.toList args.toList ds p := hA0
  rw [Tryd.params5] at hA hval
  obtain ⟨v0, d0, rfl, rfl, h0⟩ := trodAll_one hA
  obtain ⟨rfl, rfl⟩ := trodVars_none hV
  have r0 := trodSl_rel (n := 4) under22 (by kernel_rfl) (by rw [show Tryd.prog.cellsOf 5 = 1 by kernel_rfl]; decide) (hval 0 22 v0 rfl rfl) h0
  obtain ⟨b, l, e0⟩ := bytes_arg h0
  rw [e0] at r0
  have hpc : PureCall X 5 [.lst 1 b (uvs l)] (bv true) := pclaw23_TokenSmall (tab_ok _ tbL_ok) loopF_ok loopQ_ok (t_Small b l)
  refine (law_calls hpc Tryd.func5 (c := Tryd.f5.body.getD .skip) (by kernel_rfl) (by kernel_rfl) (globs hL) (rels_1 r0)).mono fun e W' ⟨he, k1, k2, k3, k4⟩ => ?_
  subst he
  exact ⟨_, rfl, law_post (tb := 4) laidOut (by
    intro t ht
    have ht : t ∈ [22] := ht
    simp only [List.mem_cons, List.not_mem_nil, or_false] at ht
    subst ht
    exact ⟨by kernel_rfl, of_decide_eq_true (by kernel_rfl)⟩) (by kernel_rfl) under4 rfl rfl rfl hW' ⟨k1, k2, k3, k4⟩⟩

theorem tokenSmall_row : Rows.TokenSmallSaid :=
  OpenClaim.holds_of_wide 5 Tryd.f5 rfl rfl rfl rfl rfl rfl rfl ⟨rfl, rfl, rfl, rfl, rfl⟩ rfl rfl rfl rfl rfl (by kernel_rfl) Tryd.func5 (by kernel_rfl)
    (of_decide_eq_true (by kernel_rfl)) (by unfold Func.isWrapper; first | (rw [if_pos (by decide +kernel)]; kernel_rfl) | (rw [if_neg (by decide +kernel)]; exact ⟨rfl, rfl⟩))
    (fun os started H enc _ => lifted os started H enc)

theorem tokenSmall_holds : Rows.TokenSmallCardSaid :=
  Claim7.holds_tied_plain_at .later [] [.data, .data, .data, .data, .sentinel, .sentinel, .pinned] true (true, "426c488752a5a2461248d5dfac4f63578310dd7ee3f192409507e93251a91326") true
    tokenSmall_row (fun _ h => by cases h) (by kernel_rfl) (fun _ h => by cases h) tokenSmall_row_tie rfl ⟨rfl, rfl⟩ (by kernel_rfl) rfl
    (fun f fn hf hfn => by
      obtain rfl : f = 5 := Option.some.inj ((show Tryd.prog.funcNamed "escheat/escheatlaw23.TokenSmall" = some 5 by kernel_rfl).symm.trans hf) |>.symm
      obtain rfl : fn = Tryd.f5 := (Option.some.inj (Tryd.func5.symm.trans hfn)).symm
      exact ⟨by kernel_rfl, fun j t ht => by
        rw [Tryd.params5] at ht
        have hm : t ∈ [22] := by simpa using Array.mem_of_getElem? ht
        have hall : ([22].all fun u => !Tryd.prog.wantsStandIn u) = true := by kernel_rfl
        exact (show Tryd.prog.wantsStandIn t = false by simpa using List.all_eq_true.1 hall t hm)⟩)
    (by kernel_rfl)
end Go.Proofs.YtphbfkncimifoaaDoor
