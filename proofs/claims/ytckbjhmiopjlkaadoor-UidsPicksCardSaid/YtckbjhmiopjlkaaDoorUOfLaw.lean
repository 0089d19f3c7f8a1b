import Derived.Test.YtckbjhmiopjlkaaDoorUOf
import Derived.Test.YtckbjhmiopjlkaaDoorUTurned
set_option linter.unusedVariables false
set_option linter.unusedSimpArgs false
set_option maxRecDepth 100000
namespace Go.Proofs.YtckbjhmiopjlkaaDoor
/- The law UidsOf, plain. -/
open Go Go.Ab Go.RowKit

theorem kRis {T : Tab} (hT : tabK T f_ref09_Rising = e_Ris) {b : Bool} {l : List Int} (h : l.length ≤ 1000000000) : tabK T f_ref09_Rising [.lst 1 b (ivs l)] = some (bv (risB l)) := by
  rw [hT]
  show (match intsOf (ivs l) with | some l => br (decide (l.length ≤ 1000000000)) (some (bv (risB l))) none | none => none) = _
  rw [intsOf_ivs]
  exact br_yesD h
theorem kOf {T : Tab} (hT : tabK T f_uids_Of = e_Of) {b : Bool} {l : List Int} (h : l.length ≤ 500) (hg : goodAll l = true) : tabK T f_uids_Of [.lst 1 b (ivs l)] = some (.lst 2 l.isEmpty (rowsOf (ofV l))) := by
  rw [hT]
  show (match intsOf (ivs l) with | some ns => br (decide (ns.length ≤ 500) && goodAll ns) (some (AV.lst 2 ns.isEmpty (rowsOf (ofV ns)))) none | none => none) = _
  rw [intsOf_ivs]
  exact br_pos (by rw [hg, decide_eq_true h]; rfl)
theorem kPick {T : Tab} (hT : tabK T f_uids_Pick = e_Pick) {b c : Bool} {l : List (Int × Int)} {ns : List Int} (h1 : l.length ≤ 1000) (h2 : ns.length ≤ 1000) (h3 : c = true → ns = []) :
    tabK T f_uids_Pick [.lst 2 b (rowsOf l), .lst 1 c (ivs ns)] = some (AV.lst 1 c (ivs (pickV l ns))) := by
  rw [hT]
  show (match pairsOf (rowsOf l), intsOf (ivs ns) with
    | some l, some ns => br (decide (l.length ≤ 1000) && decide (ns.length ≤ 1000)) (match c with
      | false => some (AV.lst 1 false (ivs (pickV l ns)))
      | true => match ns with
        | [] => some (AV.lst 1 true [])
        | _ => none) none
    | _, _ => none) = _
  rw [pairsOf_rows, intsOf_ivs]
  refine (br_pos (by rw [decide_eq_true h1, decide_eq_true h2]; rfl)).trans ?_
  cases c with
  | false => rfl
  | true => rw [h3 rfl]; rfl
theorem kInts {T : Tab} (hT : tabK T f_ref09_Ints = e_Ints) {b c : Bool} {l m : List Int} (h : l.length ≤ 1000000000) : tabK T f_ref09_Ints [.lst 1 b (ivs l), .lst 1 c (ivs m)] = some (bv (decide (l = m))) := by
  rw [hT]
  show (match intsOf (ivs l), intsOf (ivs m) with
    | some a, some b => br (decide (a.length ≤ 1000000000)) (some (bv (decide (a = b)))) none
    | _, _ => none) = _
  rw [intsOf_ivs, intsOf_ivs]
  exact br_yesD h
theorem ris_good {l : List Int} (h : risB l = true) : goodAll l = true := by
  have h : ∀ j, j < l.length → okAt l j := of_propB h
  refine List.all_eq_true.2 fun n hn => ?_
  obtain ⟨j, hj, rfl⟩ := List.getElem_of_mem hn
  have := h j hj
  unfold okAt at this
  rw [getD_at l j hj] at this
  rw [decide_eq_true this.1, decide_eq_true this.2.1]
  rfl

noncomputable def tbLo : Tab := [(f_law09_alive, e_alive), (f_uids_Has, e_Has), (f_uids_Of, e_Of), (f_uids_Pick, e_Pick), (f_ref09_Rising, e_Ris), (f_ref09_Ints, e_Ints)]
theorem tbLo_ok : TabOk X tbLo := tab_cons e_alive_ok (tab_cons e_Has_ok (tab_cons e_Of_ok (tab_cons e_Pick_ok (tab_cons e_Ris_ok (tab_cons e_Ints_ok tab_nil)))))

noncomputable def inv_lo : Slaw09_UidsOf_0 → Bool
  | .s0 b rows n c l5 p i => propB (∃ ns, rows = ivs ns ∧ 0 ≤ i ∧ i ≤ ns.length ∧ ns.length ≤ 500)
theorem i_lo {b : Bool} {rows : List AV} {n : Int} {c : Bool} {l5 : List AV} {p : Bool} {i : Int} (h : ∃ ns, rows = ivs ns ∧ 0 ≤ i ∧ i ≤ ns.length ∧ ns.length ≤ 500) : inv_lo (.s0 b rows n c l5 p i) = true := propB_of h
def out_lo : Slaw09_UidsOf_0 → Olaw09_UidsOf_0
  | .s0 b rows n c l5 p i => .x0 b rows n c l5 (p || (((intsOf rows).getD []).drop i.toNat).any fun m => m == n)
theorem l_lo (K : PureK) : ∀ s o, lOf inv_lo out_lo s = some o → ∃ k, fuelRec (Rlaw09_UidsOf_0 K some) k s = some o :=
  fuel_of inv_lo out_lo (fun | .s0 _ rows _ _ _ _ i => (rows.length - i).toNat) (by
    rintro ⟨b, rows, n, c, l5, p, i⟩ rec hi hrec
    obtain ⟨ns, rfl, h0, h1, h2⟩ := of_propB hi
    simp only [Rlaw09_UidsOf_0, out_lo, intsOf_ivs, Option.getD_some]
    have hl2 : (((ivs ns).length : Nat) : Int) = (ns.length : Int) := by rw [ivs_len]
    by_cases h : i < ns.length
    · have hlt : i.toNat < ns.length := by omega
      have fin : ∀ q : Bool, q = (p || ns[i.toNat] == n) → rec (.s0 b (ivs ns) n c l5 q (w64 (i + 1))) = some (.x0 b (ivs ns) n c l5 (p || (ns.drop i.toNat).any fun m => m == n)) := by
        rintro q rfl
        rw [w64_id (n := i + 1) (by omega) (by omega), hrec _ (i_lo ⟨ns, rfl, by omega, by omega, h2⟩) (by show (((ivs ns).length : Nat) - (i + 1) : Int).toNat < (((ivs ns).length : Nat) - i : Int).toNat; omega)]
        simp only [out_lo, intsOf_ivs, Option.getD_some]
        rw [List.drop_eq_getElem_cons hlt, List.any_cons, show (i + 1).toNat = i.toNat + 1 by omega, Bool.or_assoc]
      rw [hl2, br_yesD h]
      cases p with
      | true =>
        simp only [br_t, optK_s, asBool_v]
        exact fin true rfl
      | false =>
        simp only [br_f]
        rw [br_yesD h0, br_yesD h, ivs_get _ _ hlt]
        simp only [optK_s, asInt_v, asBool_v]
        exact fin _ rfl
    · rw [hl2, br_noD h]
      have : i.toNat = ns.length := by omega
      rw [this, List.drop_length]
      simp)

theorem pick_of {ns : List Int} (h : ∀ n ∈ ns, goodN n) : pickV (ofV ns) ns = ns := by
  refine List.filter_eq_self.2 fun n hn => ?_
  rw [hasV_of h]
  exact decide_eq_true hn
theorem any_mem (ns : List Int) (n : Int) : (ns.any fun m => m == n) = decide (n ∈ ns) := by
  rw [Bool.eq_iff_iff]
  simp
theorem t_of (b : Bool) (ns : List Int) (n : Int) (hb : b = true → ns = []) : Rlaw09_UidsOf (tabK tbLo) (lOf inv_lo out_lo) b (ivs ns) n = some (bv true) := by
  unfold Rlaw09_UidsOf
  rw [show tabK tbLo f_law09_alive [] = some (bv true) from rfl]
  simp only [optK_s, asBool_v, Bool.not_true, br_f]
  have hl2 : (((ivs ns).length : Nat) : Int) = (ns.length : Int) := by rw [ivs_len]
  rw [hl2]
  by_cases hl : (ns.length : Int) > 200
  · rw [br_yesD hl]; rfl
  · rw [br_noD hl, kRis (T := tbLo) rfl (by omega)]
    simp only [optK_s, asBool_v]
    cases hr : risB ns with
    | false => rfl
    | true =>
      simp only [Bool.not_true, br_f]
      have hga := ris_good hr
      have hg := goodAll_of hga
      have hlen := ofV_len hg
      rw [kOf (T := tbLo) rfl (by omega) hga]
      simp only [optK_s]
      rw [show (∀ (k : Bool → List AV → Option AV), Ab.asLst (.lst 2 ns.isEmpty (rowsOf (ofV ns))) 2 k = k ns.isEmpty (rowsOf (ofV ns))) from fun k => rfl]
      rw [lOf_pos (i_lo ⟨ns, rfl, Int.le_refl 0, by omega, by omega⟩)]
      simp only [optK_s, out_lo, Olaw09_UidsOf_0.k, intsOf_ivs, Option.getD_some]
      rw [kHas (T := tbLo) rfl (by omega)]
      simp only [optK_s, asBool_v]
      rw [show (0 : Int).toNat = 0 from rfl, List.drop_zero, Bool.false_or, any_mem, hasV_of hg, br_pos (by simp), kPick (T := tbLo) rfl (by omega) (by omega) hb]
      simp only [optK_s]
      rw [show (∀ (k : Bool → List AV → Option AV), Ab.asLst (.lst 1 b (ivs (pickV (ofV ns) ns))) 1 k = k b (ivs (pickV (ofV ns) ns))) from fun k => rfl]
      rw [pick_of hg, kInts (T := tbLo) rfl (by omega)]
      simp only [optK_s, asBool_v, decide_true, br_t]
      rw [rowsOf_len, decide_eq_true (by omega)]
end Go.Proofs.YtckbjhmiopjlkaaDoor
