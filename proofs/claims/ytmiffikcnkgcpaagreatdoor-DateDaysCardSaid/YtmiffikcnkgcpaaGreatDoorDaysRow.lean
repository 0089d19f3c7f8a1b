/- The law DateDays: for every day, and every date, the program's date and day are the document's. Conditions: the listed package-level variables hold what the program's text lays (tied by the card). -/
import Derived.Test.YtmiffikcnkgcpaaGreatDoorFnsB
import Derived.Test.YtmiffikcnkgcpaaGreatDoorMemo
import Derived.Test.YtmiffikcnkgcpaaGreatDoorTie
import Derived.Test.YtmiffikcnkgcpaaGreatDoorCards
import Derived.Test.YtmiffikcnkgcpaaGreatDoorAbRow
set_option linter.unusedVariables false
set_option linter.unusedSimpArgs false
namespace Go.Proofs.YtmiffikcnkgcpaaGreatDoor
open Go Go.Ab Go.ChangeShapes Go.WideShapes

def e5 : List AV → Option AV
  | [] => some (bv true)
  | _ => none
theorem e5_ok (xs : List AV) (v : AV) (h : e5 xs = some v) : PureCall X 5 xs v := by
  unfold e5 at h
  split at h
  · cases h; exact p34
  · cases h
def tb4 : Tab := (5, e5) :: (18, e18) :: (19, e18) :: tb3
theorem tb4_ok : TabOk X tb4 := tab_cons e5_ok (tab_cons e18_ok (tab_cons e19_ok tb3_ok))

theorem t4 (day y m d : Int) : R4 (tabK tb4) day y m d = some (bv true) := by
  unfold R4
  rw [show tabK tb4 5 [] = some (bv true) from rfl, show tabK tb4 16 [iv day] = some (triple (civI day)) from rfl, show tabK tb4 17 [iv day] = some (triple (civI day)) from rfl,
    show tabK tb4 18 [iv y, iv m, iv d] = some (iv (numI y m d)) from rfl, show tabK tb4 19 [iv y, iv m, iv d] = some (iv (numI y m d)) from rfl]
  simp only [optK_s, asBool_v, asInt_v, Bool.not_true, br_f, triple]
  rw [asTup_v _ 3 rfl]
  simp only [List.getD_cons_zero, List.getD_cons_succ, asInt_v]
  rw [asTup_v _ 3 rfl]
  simp [asInt_v, asBool_v, optK_s, br_t]

theorem own : ownKnob Tryz.prog.godebug = none := by kernel_rfl
theorem laidOut : laidOutB Tryz.prog = true := by kernel_rfl
theorem under4 : Tryz.prog.underlying 4 = some .bool := by kernel_rfl

theorem globs {W : World} (h : laidMetH Tryz.prog Rows.dateDaysRow.laid W) (g : Nat) (x : AV) (hx : X.G g = some x) : Rel (St.init W) (.pl x 0) (.pointer (some (ad g 0))) := by
  rw [MakeChecks.laidMetH_plain _ _ _ (by kernel_rfl)] at h
  have hx : gX g = some x := hx
  unfold gX at hx
  split at hx
  · rename_i p hp
    have hm := List.mem_of_find?_eq_some hp
    have hg := List.find?_some hp
    cases hx
    obtain rfl := Nat.eq_of_beq_eq_true hg
    simp only [gL, List.mem_cons, List.not_mem_nil, or_false] at hm
    rcases hm with rfl | rfl
    · exact glob_rel h (n := "escheat/date.names") (d := Rows.laid_escheat_date_names) (k := 3) (List.mem_of_getElem? (i := 8) rfl) (by kernel_rfl) (t := 50) (by kernel_rfl) (by kernel_rfl) (by kernel_rfl)
    · exact glob_rel h (n := "escheat/date.ahead") (d := Rows.laid_escheat_date_ahead) (k := 3) (List.mem_of_getElem? (i := 9) rfl) (by kernel_rfl) (t := 65) (by kernel_rfl) (by kernel_rfl) (by kernel_rfl)
  · cases hx

set_option maxRecDepth 100000 in
theorem lifted (os : Os) (started : os.Started) (H : Type) (enc : TypeId × Value → H) :
    ReturnsInHanded {} Tryz.checked os 4 .any (fun w args => (Rows.dateDaysSpec.pre enc Tryz.prog Tryz.f4 [] false w args ∧ laidMetH Tryz.prog Rows.dateDaysRow.laid w) ∧ sizedMet enc Tryz.prog Tryz.f4 (OpenSpec.ofChange Rows.dateDaysSpec) false w args)
      (Rows.dateDaysSpec.post enc Tryz.prog Tryz.f4 false true false false) := by
  refine returnsInHanded_of_change_and (C := Tryz.checked) (X := fun w _ => laidMetH Tryz.prog Rows.dateDaysRow.laid w) (fun _ _ _ hh h => h.of_heap hh) own started (by kernel_rfl) Tryz.func4
    (ChangeSpec.witness_shaped (enc := enc) (C := Tryz.checked) (os := os) (X := fun w _ => laidMetH Tryz.prog Rows.dateDaysRow.laid w) false (World.laidAll Tryz.prog os Rows.dateDaysRow.laid) #[.int .i64 0, .agg #[.int .i64 0, .int .i64 0, .int .i64 0]] 8 (World.laidAll_os _ _ _)
      (World.shaped_of_ZipB (by kernel_rfl) (by kernel_rfl)) (by kernel_rfl) (by kernel_rfl) (by kernel_rfl)
      (by rw [MakeChecks.laidMetH_plain _ _ _ (by kernel_rfl)]; exact laidMet_laidAll _ (by kernel_rfl) (by kernel_rfl))) ?_
  intro W base args ds gs before hval0 hW _ _ hL _
  have hval : ∀ (j : Nat) t v, Tryz.f4.params[j]? = some t → args[j]? = some v → Value.okWide Tryz.prog W .any base t v := hval0
  have hW' := hW
  obtain ⟨p, q, hA0, hV, rfl, _, _⟩ := hW
  have hA : DataW.TrodAll enc Tryz.prog W 0 (fun _ => true) true Tryz.f4.params.toList args.toList ds p := hA0
  rw [Tryz.params4] at hA hval
  obtain ⟨v0, v1, d0, d1, p0, p1, rfl, rfl, rfl, h0, h1⟩ := trodAll_two hA
  obtain ⟨rfl, rfl⟩ := trodVars_none hV
  have r0 := trod_rel (St.init W) (n := 4) (by kernel_rfl) (hval 0 3 v0 rfl rfl) h0
  have r1 := trod_rel (St.init W) (n := 4) (by kernel_rfl) (hval 1 30 v1 rfl rfl) h1
  have f0 := Trod_fit (n := 4) (by kernel_rfl) h0
  have f1 := Trod_fit (n := 4) (by kernel_rfl) h1
  rw [show (shOf Tryz.prog 4 3).cells = [.int .i64] by kernel_rfl] at f0
  rw [show (shOf Tryz.prog 4 30).cells = [.int .i64, .int .i64, .int .i64] by kernel_rfl] at f1
  unfold rdAV at r0 r1
  rw [show kindT Tryz.prog 3 = some false by kernel_rfl] at r0
  rw [show kindT Tryz.prog 30 = some true by kernel_rfl] at r1
  generalize rdCells Tryz.prog 4 3 d0 = l0 at r0 f0
  generalize rdCells Tryz.prog 4 30 d1 = l1 at r1 f1
  obtain ⟨_, _, rfl, ⟨day, rfl, _⟩, g1⟩ := fitL_cons f0
  obtain rfl := fitL_nil g1
  obtain ⟨_, _, rfl, ⟨y, rfl, _⟩, g2⟩ := fitL_cons f1
  obtain ⟨_, _, rfl, ⟨m, rfl, _⟩, g3⟩ := fitL_cons g2
  obtain ⟨_, _, rfl, ⟨d, rfl, _⟩, g4⟩ := fitL_cons g3
  obtain rfl := fitL_nil g4
  have hpc : PureCall X 4 [iv day, .agg [iv y, iv m, iv d]] (bv true) := pc4 (tab_ok _ tb4_ok) (t4 day y m d)
  refine (law_calls hpc Tryz.func4 (c := Tryz.f4.body.getD .skip) (by kernel_rfl) (by kernel_rfl) (globs hL) (rels_2 r0 r1)).mono fun e W' ⟨he, k1, k2, k3, k4⟩ => ?_
  subst he
  exact ⟨_, rfl, law_post (tb := 4) laidOut (by
    intro t ht
    have ht : t ∈ [3, 30] := ht
    simp only [List.mem_cons, List.not_mem_nil, or_false] at ht
    rcases ht with rfl | rfl
    · exact ⟨by kernel_rfl, of_decide_eq_true (by kernel_rfl)⟩
    · exact ⟨by kernel_rfl, of_decide_eq_true (by kernel_rfl)⟩) (by kernel_rfl) under4 rfl rfl rfl hW' ⟨k1, k2, k3, k4⟩⟩

theorem dateDays_row : Rows.DateDaysSaid :=
  OpenClaim.holds_of_wide 4 Tryz.f4 rfl rfl rfl rfl rfl rfl rfl ⟨rfl, rfl, rfl, rfl, rfl⟩ rfl rfl rfl rfl rfl (by kernel_rfl) Tryz.func4 (by kernel_rfl)
    (of_decide_eq_true (by kernel_rfl)) (by unfold Func.isWrapper; first | (rw [if_pos (by decide +kernel)]; kernel_rfl) | (rw [if_neg (by decide +kernel)]; exact ⟨rfl, rfl⟩))
    (fun os started H enc _ => lifted os started H enc)

theorem dateDays_holds : Rows.DateDaysCardSaid :=
  Claim7.holds_tied_plain_at .later [] [.data, .data, .data, .data, .sentinel, .sentinel, .data, .data, .data, .data, .pinned, .pinned] true (true, "e55d68ce774d75e9ec3fa350252d44d675565e32f3f4f9bd01fc46f634c28e17") true
    dateDays_row (fun _ h => by cases h) (by kernel_rfl) (fun _ h => by cases h) dateDays_row_tie rfl ⟨rfl, rfl⟩ (by kernel_rfl) rfl
    (fun f fn hf hfn => by
      obtain rfl : f = 4 := Option.some.inj ((show Tryz.prog.funcNamed "escheat/escheatlaw07.DateDays" = some 4 by kernel_rfl).symm.trans hf) |>.symm
      obtain rfl : fn = Tryz.f4 := (Option.some.inj (Tryz.func4.symm.trans hfn)).symm
      exact ⟨by kernel_rfl, fun j t ht => by
        rw [Tryz.params4] at ht
        have hm : t ∈ [3, 30] := by simpa using Array.mem_of_getElem? ht
        have hall : ([3, 30].all fun u => !Tryz.prog.wantsStandIn u) = true := by kernel_rfl
        exact (show Tryz.prog.wantsStandIn t = false by simpa using List.all_eq_true.1 hall t hm)⟩)
    (by kernel_rfl)
#print axioms dateDays_holds
end Go.Proofs.YtmiffikcnkgcpaaGreatDoor
