/- The law DateTexts: any text is the document's time, or day, or refused, and any time has its text; of up to 300 bytes. Conditions: the listed package-level variables hold what the program's text lays (tied by the card). -/
import Derived.Test.YtmiffikcnkgcpaaGreatDoorDtFive
import Derived.Test.YtmiffikcnkgcpaaGreatDoorTie
import Derived.Test.YtmiffikcnkgcpaaGreatDoorCards
import Derived.Test.YtmiffikcnkgcpaaGreatDoorAbRow
import Derived.Test.YtmiffikcnkgcpaaGreatDoorAbRead
set_option linter.unusedVariables false
set_option linter.unusedSimpArgs false
namespace Go.Proofs.YtmiffikcnkgcpaaGreatDoor
open Go Go.Ab Go.ChangeShapes Go.WideShapes

theorem own : ownKnob Tryz.prog.godebug = none := by kernel_rfl
theorem laidOut : laidOutB Tryz.prog = true := by kernel_rfl
theorem under4 : Tryz.prog.underlying 4 = some .bool := by kernel_rfl

theorem globs {W : World} (h : laidMetH Tryz.prog Rows.dateTextsRow.laid W) (g : Nat) (x : AV) (hx : X.G g = some x) : GlobOk (St.init W) g x := by
  rw [MakeChecks.laidMetH_plain _ _ _ (by kernel_rfl)] at h
  have hx : gX g = some x := hx
  unfold gX at hx
  split at hx
  · rename_i p hp
    have hm := List.mem_of_find?_eq_some hp
    have hg := List.find?_some hp
    cases hx
    obtain rfl := Nat.eq_of_beq_eq_true hg
    simp only [gL, List.mem_cons, List.not_mem_nil, or_false] at hm
    rcases hm with rfl | rfl | rfl | rfl | rfl | rfl | rfl | rfl
    · exact glob_rel h (n := "escheat/date.names") (d := Rows.laid_escheat_date_names) (k := 3) (List.mem_of_getElem? (i := 8) rfl) (by kernel_rfl) (t := 50) (by kernel_rfl) (by kernel_rfl) (by kernel_rfl)
    · exact glob_rel h (n := "escheat/date.ahead") (d := Rows.laid_escheat_date_ahead) (k := 3) (List.mem_of_getElem? (i := 9) rfl) (by kernel_rfl) (t := 65) (by kernel_rfl) (by kernel_rfl) (by kernel_rfl)
    · exact glob_junk h (n := "strconv.ErrSyntax") (d := Rows.laid_strconv_ErrSyntax) (List.mem_of_getElem? (i := 5) rfl) (g := 8) (t := 70) (by kernel_rfl) (by kernel_rfl) (by kernel_rfl)
    · exact glob_junk h (n := "strconv.ErrRange") (d := Rows.laid_strconv_ErrRange) (List.mem_of_getElem? (i := 4) rfl) (g := 9) (t := 70) (by kernel_rfl) (by kernel_rfl) (by kernel_rfl)
    · exact glob_read h (n := "unicode.asciiFold") (d := Rows.laid_unicode_asciiFold) (k := 3) (List.mem_of_getElem? (i := 6) rfl) (by kernel_rfl) (t := 87) (by kernel_rfl) (by kernel_rfl) (by kernel_rfl)
    · exact glob_read h (n := "unicode.caseOrbit") (d := Rows.laid_unicode_caseOrbit) (k := 4) (List.mem_of_getElem? (i := 7) rfl) (by kernel_rfl) (t := 88) (by kernel_rfl) (by kernel_rfl) (by kernel_rfl)
    · exact glob_read h (n := "unicode/utf8.first") (d := Rows.laid_unicode_utf8_first) (k := 3) (List.mem_of_getElem? (i := 11) rfl) (by kernel_rfl) (t := 104) (by kernel_rfl) (by kernel_rfl) (by kernel_rfl)
    · exact glob_rel h (n := "unicode/utf8.acceptRanges") (d := Rows.laid_unicode_utf8_acceptRanges) (k := 4) (List.mem_of_getElem? (i := 3) rfl) (by kernel_rfl) (t := 107) (by kernel_rfl) (by kernel_rfl) (by kernel_rfl)
  · cases hx

set_option maxRecDepth 100000 in
theorem str_arg {H : Type} {enc : TypeId × Value → H} {w : World} {base : Nat} {spare : Nat → Bool} {held : Bool} {v : Value} {d : DataW H} {ps : List MemPlace} (h : DataW.Trod enc Tryz.prog w base spare held 9 v d ps) :
    ∃ s, rdV Tryz.prog 4 9 d = sv (bs s) := by
  have f := Read_fit (n := 4) (by kernel_rfl) h
  rw [show rsh Tryz.prog 4 9 = [.str] by kernel_rfl] at f
  unfold rdV
  rw [show kindT Tryz.prog 9 = some false by kernel_rfl]
  generalize rdC Tryz.prog 4 9 d = l0 at f
  simp only [fitRs] at f
  obtain ⟨c1, cs1, rfl, q1, rfl⟩ := f
  simp only [fitR] at q1
  obtain ⟨s, rfl⟩ := q1
  obtain ⟨t, rfl⟩ := exists_bs s
  exact ⟨t, rfl⟩
theorem leaf_i64 {c : AV} (h : leafIs (.int .i64) c) : ∃ n, c = AV.v (.int .i64 n) ∧ n < 9223372036854775808 := by
  have h : ∃ n, c = AV.v (.int .i64 n) ∧ (Lit.int .i64 n).wf = true := h
  obtain ⟨n, h1, h2⟩ := h
  refine ⟨n, h1, ?_⟩
  simp [Lit.wf, IntKind.min, IntKind.max, IntKind.signed, IntKind.bits] at h2
  omega
set_option maxRecDepth 100000 in
theorem lifted (os : Os) (started : os.Started) (H : Type) (enc : TypeId × Value → H) :
    ReturnsInHanded {} Tryz.checked os 3 .any (fun w args => (Rows.dateTextsSpec.pre enc Tryz.prog Tryz.f3 [] false w args ∧ laidMetH Tryz.prog Rows.dateTextsRow.laid w) ∧ sizedMet enc Tryz.prog Tryz.f3 (OpenSpec.ofChange Rows.dateTextsSpec) false w args)
      (Rows.dateTextsSpec.post enc Tryz.prog Tryz.f3 false true false false) := by
  refine returnsInHanded_of_change_and (C := Tryz.checked) (X := fun w _ => laidMetH Tryz.prog Rows.dateTextsRow.laid w) (fun _ _ _ hh h => h.of_heap hh) own started (by kernel_rfl) Tryz.func3
    (ChangeSpec.witness_shaped (enc := enc) (C := Tryz.checked) (os := os) (X := fun w _ => laidMetH Tryz.prog Rows.dateTextsRow.laid w) false (World.laidAll Tryz.prog os Rows.dateTextsRow.laid) #[.string ⟨#[]⟩, .int .i64 0] 8 (World.laidAll_os _ _ _)
      (World.shaped_of_ZipB (by kernel_rfl) (by kernel_rfl)) (by kernel_rfl) (by kernel_rfl) (by kernel_rfl)
      (by rw [MakeChecks.laidMetH_plain _ _ _ (by kernel_rfl)]; exact laidMet_laidAll _ (by kernel_rfl) (by kernel_rfl))) ?_
  intro W base args ds gs before hval0 hW _ _ hL _
  have hval : ∀ (j : Nat) t v, Tryz.f3.params[j]? = some t → args[j]? = some v → Value.okWide Tryz.prog W .any base t v := hval0
  have hW' := hW
  obtain ⟨p, q, hA0, hV, rfl, _, _⟩ := hW
  have hA : DataW.TrodAll enc Tryz.prog W 0 (fun _ => true) true Tryz.f3.params.toList args.toList ds p := hA0
  rw [Tryz.params3] at hA hval
  obtain ⟨v0, v1, d0, d1, p0, p1, rfl, rfl, rfl, h0, h1⟩ := trodAll_two hA
  obtain ⟨rfl, rfl⟩ := trodVars_none hV
  have r0 := read_rel (n := 4) (by kernel_rfl) (hval 0 9 v0 rfl rfl) h0
  obtain ⟨s, e0⟩ := str_arg h0
  rw [e0] at r0
  have r1 := trod_rel (St.init W) (n := 4) (by kernel_rfl) (hval 1 3 v1 rfl rfl) h1
  have f1 := Trod_fit (n := 4) (by kernel_rfl) h1
  rw [show (shOf Tryz.prog 4 3).cells = [.int .i64] by kernel_rfl] at f1
  unfold rdAV at r1
  rw [show kindT Tryz.prog 3 = some false by kernel_rfl] at r1
  generalize rdCells Tryz.prog 4 3 d1 = l1 at r1 f1
  obtain ⟨_, _, rfl, q1, g1⟩ := fitL_cons f1
  obtain ⟨t, rfl, ht⟩ := leaf_i64 q1
  obtain rfl := fitL_nil g1
  have hpc : PureCall X 3 [sv (bs s), iv t] (bv true) := pclaw07_DateTexts (tab_ok _ tbLx_ok) (t_Texts s t ht)
  refine (law_calls hpc Tryz.func3 (c := Tryz.f3.body.getD .skip) (by kernel_rfl) (by kernel_rfl) (globs hL) (rels_2 r0 r1)).mono fun e W' ⟨he, k1, k2, k3, k4⟩ => ?_
  subst he
  exact ⟨_, rfl, law_post (tb := 4) laidOut (by
    intro t ht
    have ht : t ∈ [9, 3] := ht
    simp only [List.mem_cons, List.not_mem_nil, or_false] at ht
    rcases ht with rfl | rfl
    · exact ⟨by kernel_rfl, of_decide_eq_true (by kernel_rfl)⟩
    · exact ⟨by kernel_rfl, of_decide_eq_true (by kernel_rfl)⟩) (by kernel_rfl) under4 rfl rfl rfl hW' ⟨k1, k2, k3, k4⟩⟩

theorem dateTexts_row : Rows.DateTextsSaid :=
  OpenClaim.holds_of_wide 3 Tryz.f3 rfl rfl rfl rfl rfl rfl rfl ⟨rfl, rfl, rfl, rfl, rfl⟩ rfl rfl rfl rfl rfl (by kernel_rfl) Tryz.func3 (by kernel_rfl)
    (of_decide_eq_true (by kernel_rfl)) (by unfold Func.isWrapper; first | (rw [if_pos (by decide +kernel)]; kernel_rfl) | (rw [if_neg (by decide +kernel)]; exact ⟨rfl, rfl⟩))
    (fun os started H enc _ => lifted os started H enc)

theorem dateTexts_holds : Rows.DateTextsCardSaid :=
  Claim7.holds_tied_plain_at .later [] [.data, .data, .data, .data, .sentinel, .sentinel, .data, .data, .data, .data, .pinned, .pinned] true (true, "e55d68ce774d75e9ec3fa350252d44d675565e32f3f4f9bd01fc46f634c28e17") true
    dateTexts_row (fun _ h => by cases h) (by kernel_rfl) (fun _ h => by cases h) dateTexts_row_tie rfl ⟨rfl, rfl⟩ (by kernel_rfl) rfl
    (fun f fn hf hfn => by
      obtain rfl : f = 3 := Option.some.inj ((show Tryz.prog.funcNamed "escheat/escheatlaw07.DateTexts" = some 3 by kernel_rfl).symm.trans hf) |>.symm
      obtain rfl : fn = Tryz.f3 := (Option.some.inj (Tryz.func3.symm.trans hfn)).symm
      exact ⟨by kernel_rfl, fun j t ht => by
        rw [Tryz.params3] at ht
        have hm : t ∈ [9, 3] := by simpa using Array.mem_of_getElem? ht
        have hall : ([9, 3].all fun u => !Tryz.prog.wantsStandIn u) = true := by kernel_rfl
        exact (show Tryz.prog.wantsStandIn t = false by simpa using List.all_eq_true.1 hall t hm)⟩)
    (by kernel_rfl)
#print axioms dateTexts_holds
end Go.Proofs.YtmiffikcnkgcpaaGreatDoor
