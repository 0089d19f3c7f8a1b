/- The law SearchDays: a message came ahead of a day, on it, or behind it, and just one of these. Conditions: the listed package-level variables hold what the program's text lays (tied by the card). -/
import Derived.Test.YtkkbdebmilagoaaGreatDoorSeD
import Derived.Test.YtkkbdebmilagoaaGreatDoorSeRow
import Derived.Test.YtkkbdebmilagoaaGreatDoorTie
import Derived.Test.YtkkbdebmilagoaaGreatDoorCards
import Derived.Test.YtkkbdebmilagoaaGreatDoorAbRow
set_option linter.unusedVariables false
set_option linter.unusedSimpArgs false
namespace Go.Proofs.YtkkbdebmilagoaaGreatDoor
open Go Go.Ab Go.ChangeShapes Go.WideShapes

theorem globs {W : World} (h : laidMetH Tryz.prog Rows.searchDaysRow.laid W) {m : Int} (hm : GlobOk (St.init W) 0 (iv m)) (g : Nat) (x : AV) (hx : (XM m).G g = some x) : GlobOk (St.init W) g x := by
  rw [MakeChecks.laidMetH_plain _ _ _ (by kernel_rfl)] at h
  exact globsOf h hm (List.mem_of_getElem? (i := 8) rfl) (List.mem_of_getElem? (i := 9) rfl) (List.mem_of_getElem? (i := 5) rfl) (List.mem_of_getElem? (i := 4) rfl) (List.mem_of_getElem? (i := 6) rfl) (List.mem_of_getElem? (i := 7) rfl) (List.mem_of_getElem? (i := 11) rfl) (List.mem_of_getElem? (i := 3) rfl) g x hx

set_option maxRecDepth 100000 in
theorem lifted (os : Os) (started : os.Started) (H : Type) (enc : TypeId × Value → H) :
    ReturnsInHanded {} Tryz.checked os 5 .any (fun w args => (Rows.searchDaysSpec.pre enc Tryz.prog Tryz.f5 [] false w args ∧ laidMetH Tryz.prog Rows.searchDaysRow.laid w) ∧ sizedMet enc Tryz.prog Tryz.f5 (OpenSpec.ofChange Rows.searchDaysSpec) false w args)
      (Rows.searchDaysSpec.post enc Tryz.prog Tryz.f5 false true false false) := by
  refine returnsInHanded_shaped_and (C := Tryz.checked) (X := fun w _ => laidMetH Tryz.prog Rows.searchDaysRow.laid w) (fun _ _ _ hh h => h.of_heap hh) own started (by kernel_rfl) Tryz.func5
    (ChangeSpec.witness_shaped (enc := enc) (C := Tryz.checked) (os := os) (X := fun w _ => laidMetH Tryz.prog Rows.searchDaysRow.laid w) false (World.laidAll Tryz.prog os Rows.searchDaysRow.laid) #[.agg #[.int .i64 0, .int .i64 0, .int .i64 0, .slice none 0 0], .int .u16 0] 8 (World.laidAll_os _ _ _)
      (World.shaped_of_ZipB (by kernel_rfl) (by kernel_rfl)) (by kernel_rfl) (by kernel_rfl) (by kernel_rfl)
      (by rw [MakeChecks.laidMetH_plain _ _ _ (by kernel_rfl)]; exact laidMet_laidAll _ (by kernel_rfl) (by kernel_rfl))) ?_
  intro W base args ds gs before hval0 hW hL hS
  obtain ⟨m, hm⟩ := maxLen_int hS
  have hval : ∀ (j : Nat) t v, Tryz.f5.params[j]? = some t → args[j]? = some v → Value.okWide Tryz.prog W .any base t v := hval0
  have hW' := hW
  obtain ⟨p, q, hA0, hV, rfl, _, _⟩ := hW
  have hA : DataW.TrodAll enc Tryz.prog W 0 (fun _ => true) true Tryz.f5.params.toList args.toList ds p := hA0
  rw [Tryz.params5] at hA hval
  obtain ⟨v0, v1, d0, d1, p0, p1, rfl, rfl, rfl, h0, h1⟩ := trodAll_two hA
  obtain ⟨rfl, rfl⟩ := trodVars_none hV
  have r0 := read_rel (n := 4) (by kernel_rfl) (hval 0 27 v0 rfl rfl) h0
  obtain ⟨x, e0, hx⟩ := msg_arg h0
  rw [e0] at r0
  have r1 := read_rel (n := 4) (by kernel_rfl) (hval 1 40 v1 rfl rfl) h1
  obtain ⟨n, e1, hn⟩ := u16_arg h1
  rw [e1] at r1
  have hpc : PureCall (XM m) 5 [x.av, .v (.int .u16 n)] (bv true) := p_Days hx hn
  refine (law_calls hpc Tryz.func5 (c := Tryz.f5.body.getD .skip) (by kernel_rfl) (by kernel_rfl) (globs hL hm) (rels_2 r0 r1)).mono fun e W' ⟨he, k1, k2, k3, k4⟩ => ?_
  subst he
  exact ⟨_, rfl, law_post (tb := 4) laidOut (by
    intro t ht
    have ht : t ∈ [27, 40] := ht
    simp only [List.mem_cons, List.not_mem_nil, or_false] at ht
    rcases ht with rfl | rfl
    · exact ⟨by kernel_rfl, of_decide_eq_true (by kernel_rfl)⟩
    · exact ⟨by kernel_rfl, of_decide_eq_true (by kernel_rfl)⟩) (by kernel_rfl) under4 rfl rfl rfl hW' ⟨k1, k2, k3, k4⟩⟩

theorem searchDays_row : Rows.SearchDaysSaid :=
  OpenClaim.holds_of_wide 5 Tryz.f5 rfl rfl rfl rfl rfl rfl rfl ⟨rfl, rfl, rfl, rfl, rfl⟩ rfl rfl rfl rfl rfl (by kernel_rfl) Tryz.func5 (by kernel_rfl)
    (of_decide_eq_true (by kernel_rfl)) (by unfold Func.isWrapper; first | (rw [if_pos (by decide +kernel)]; kernel_rfl) | (rw [if_neg (by decide +kernel)]; exact ⟨rfl, rfl⟩))
    (fun os started H enc _ => lifted os started H enc)

theorem searchDays_holds : Rows.SearchDaysCardSaid :=
  Claim7.holds_tied_plain_at .later [] [.data, .data, .data, .data, .sentinel, .sentinel, .data, .data, .data, .data, .pinned, .pinned] true (true, "ebe87bbda0de104ad8a57389402d3d72f49ed1f97f90dedebbee8ab3e6fbbd36") true
    searchDays_row (fun _ h => by cases h) (by kernel_rfl) (fun _ h => by cases h) searchDays_row_tie rfl ⟨rfl, rfl⟩ (by kernel_rfl) rfl
    (fun f fn hf hfn => by
      obtain rfl : f = 5 := Option.some.inj ((show Tryz.prog.funcNamed "escheat/escheatlaw22.SearchDays" = some 5 by kernel_rfl).symm.trans hf) |>.symm
      obtain rfl : fn = Tryz.f5 := (Option.some.inj (Tryz.func5.symm.trans hfn)).symm
      exact ⟨by kernel_rfl, fun j t ht => by
        rw [Tryz.params5] at ht
        have hm : t ∈ [27, 40] := by simpa using Array.mem_of_getElem? ht
        have hall : ([27, 40].all fun u => !Tryz.prog.wantsStandIn u) = true := by kernel_rfl
        exact (show Tryz.prog.wantsStandIn t = false by simpa using List.all_eq_true.1 hall t hm)⟩)
    (by kernel_rfl)
#print axioms searchDays_holds
end Go.Proofs.YtkkbdebmilagoaaGreatDoor
