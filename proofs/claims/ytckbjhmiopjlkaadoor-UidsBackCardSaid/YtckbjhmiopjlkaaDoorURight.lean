import Derived.Test.YtckbjhmiopjlkaaDoorUTextLaw
import Derived.Test.YtckbjhmiopjlkaaDoorUHas
import Derived.Test.YtckbjhmiopjlkaaDoorToldU5
set_option linter.unusedVariables false
set_option linter.unusedSimpArgs false
set_option maxRecDepth 100000
namespace Go.Proofs.YtckbjhmiopjlkaaDoor
/- uids.Right and the reference's; ends of ranges; the reference's Digits. -/
open Go Go.Ab Go.RowKit

theorem ble_ok {n : Nat} (h : n ≤ 1000000) : n.ble maxStr = true := Nat.ble_eq_true_of_le (by unfold maxStr; omega)
def e_May : List AV → Option AV
  | [.v (.int .i64 n)] => some (bv (decide (0 ≤ n) && decide (n ≤ 4294967295)))
  | _ => none
theorem e_May_ok (xs : List AV) (v : AV) (h : e_May xs = some v) : PureCall X f_uids_may xs v := by
  unfold e_May at h
  split at h
  · rename_i n
    cases h
    refine pcuids_may (tab_ok [] tab_nil) ?_
    unfold Ruids_may
    by_cases h0 : n ≥ 0
    · rw [br_yesD h0, decide_eq_true (show 0 ≤ n from h0)]; rfl
    · rw [br_noD h0, decide_eq_false (show ¬ 0 ≤ n from h0)]; rfl
  · cases h
def tbR1 : Tab := [(f_uids_may, e_May)]
theorem tbR1_ok : TabOk X tbR1 := tab_cons e_May_ok tab_nil
def e_R1 : List AV → Option AV
  | [.agg [.v (.int .i64 a), .v (.int .i64 b)]] => some (bv (!mayR (a, b)))
  | _ => none
theorem e_R1_ok (xs : List AV) (v : AV) (h : e_R1 xs = some v) : PureCall X f_uids_Right_1 xs v := by
  unfold e_R1 at h
  split at h
  · rename_i a b
    cases h
    refine pcuids_Right_1 (tab_ok _ tbR1_ok) ?_
    unfold Ruids_Right_1 mayR
    rw [show tabK tbR1 f_uids_may [iv a] = some (bv (decide (0 ≤ a) && decide (a ≤ 4294967295))) from rfl, show tabK tbR1 f_uids_may [iv b] = some (bv (decide (0 ≤ b) && decide (b ≤ 4294967295))) from rfl]
    simp only [optK_s, asBool_v]
    cases (decide (0 ≤ a) && decide (a ≤ 4294967295)) <;> rfl
  · cases h
def tbR2 : Tab := [(f_uids_Right_1, e_R1)]
theorem tbR2_ok : TabOk X tbR2 := tab_cons e_R1_ok tab_nil
def badR (r : Int × Int) : Bool := !mayR r
noncomputable def inv_ir : Sslices_IndexFunc__right_0 → Bool
  | .s0 b rows t7 t8 => propB (∃ l, rows = rowsOf l ∧ t7 = l.length ∧ 0 ≤ t8 ∧ t8 ≤ t7 ∧ l.length ≤ 1000000000)
theorem i_ir {b : Bool} {rows : List AV} {t7 t8 : Int} (h : ∃ l, rows = rowsOf l ∧ t7 = l.length ∧ 0 ≤ t8 ∧ t8 ≤ t7 ∧ l.length ≤ 1000000000) : inv_ir (.s0 b rows t7 t8) = true := propB_of h
def out_ir : Sslices_IndexFunc__right_0 → Oslices_IndexFunc__right_0
  | .s0 b rows t7 t8 => match goIdx badR (((pairsOf rows).getD []).drop t8.toNat) t8 with
    | some i => .x0 i
    | none => .x1
theorem l_ir : ∀ s o, lOf inv_ir out_ir s = some o → ∃ k, fuelRec (Rslices_IndexFunc__right_0 (tabK tbR2) some) k s = some o :=
  fuel_of inv_ir out_ir (fun | .s0 _ _ t7 t8 => (t7 - t8).toNat) (by
    rintro ⟨b, rows, t7, t8⟩ rec hi hrec
    obtain ⟨l, rfl, rfl, h0, h1, h2⟩ := of_propB hi
    simp only [Rslices_IndexFunc__right_0, out_ir, pairsOf_rows, Option.getD_some]
    by_cases h : t8 < l.length
    · have hlt : t8.toNat < l.length := by omega
      rw [br_yesD h, br_yesD h0, rowsOf_len, br_yesD h, rowsOf_get _ _ hlt]
      simp only [optK_s]
      rw [asAgg_v _ 2 rfl]
      simp only [List.getD_cons_zero, List.getD_cons_succ, asInt_v]
      rw [show tabK tbR2 f_uids_Right_1 [AV.agg [iv l[t8.toNat].1, iv l[t8.toNat].2]] = some (bv (badR l[t8.toNat])) from rfl]
      simp only [optK_s, asBool_v]
      rw [List.drop_eq_getElem_cons hlt]
      simp only [goIdx]
      cases hp : badR l[t8.toNat] with
      | true => rfl
      | false =>
        rw [br_f, w64_id (n := t8 + 1) (by omega) (by omega), hrec _ (i_ir ⟨l, rfl, rfl, by omega, by omega, h2⟩) (by show ((l.length : Int) - (t8 + 1)).toNat < ((l.length : Int) - t8).toNat; omega)]
        simp only [out_ir, pairsOf_rows, Option.getD_some]
        rw [show (t8 + 1).toNat = t8.toNat + 1 by omega]
    · rw [br_noD h]
      have : t8.toNat = l.length := by omega
      rw [this, List.drop_length]
      rfl)
def e_IR : List AV → Option AV
  | [.lst 2 b rows, .fn (.func 38) [] []] => match pairsOf rows with
    | some l => br (decide (l.length ≤ 1000000000)) (some (iv ((goIdx badR l 0).getD (-1)))) none
    | none => none
  | _ => none
theorem e_IR_ok (xs : List AV) (v : AV) (h : e_IR xs = some v) : PureCall X f_slices_IndexFunc_api_Range_api_Range xs v := by
  unfold e_IR at h
  split at h
  · rename_i b rows
    split at h
    · rename_i l hl
      obtain ⟨h1, h⟩ := br_yes h
      have h1 : l.length ≤ 1000000000 := of_decide_eq_true h1
      cases h
      obtain rfl := rows_of_pairs hl
      refine pcslices_IndexFunc__right (tab_ok _ tbR2_ok) l_ir ?_
      unfold Rslices_IndexFunc__right
      rw [lOf_pos (i_ir ⟨l, rfl, by rw [rowsOf_len], by omega, by rw [rowsOf_len]; omega, h1⟩)]
      simp only [optK_s, out_ir, pairsOf_rows, Option.getD_some]
      rw [show ((0 : Int)).toNat = 0 from rfl, List.drop_zero]
      cases goIdx badR l 0 <;> rfl
    · cases h
  · cases h
def tbR3 : Tab := [(f_slices_IndexFunc_api_Range_api_Range, e_IR)]
theorem tbR3_ok : TabOk X tbR3 := tab_cons e_IR_ok tab_nil
def e_CR : List AV → Option AV
  | [.lst 2 b rows, .fn (.func 38) [] []] => match pairsOf rows with
    | some l => br (decide (l.length ≤ 1000000000)) (some (bv (l.any badR))) none
    | none => none
  | _ => none
theorem e_CR_ok (xs : List AV) (v : AV) (h : e_CR xs = some v) : PureCall X f_slices_ContainsFunc_api_Range_api_Range xs v := by
  unfold e_CR at h
  split at h
  · rename_i b rows
    split at h
    · rename_i l hl
      obtain ⟨h1, h⟩ := br_yes h
      cases h
      obtain rfl := rows_of_pairs hl
      refine pcslices_ContainsFunc__right (tab_ok _ tbR3_ok) ?_
      unfold Rslices_ContainsFunc__right
      rw [show tabK tbR3 f_slices_IndexFunc_api_Range_api_Range [AV.lst 2 b (rowsOf l), AV.fn (Fn.func 38) [] []] = some (iv ((goIdx badR l 0).getD (-1))) by
        show (match pairsOf (rowsOf l) with | some l => br (decide (l.length ≤ 1000000000)) (some (iv ((goIdx badR l 0).getD (-1)))) none | none => none) = _
        rw [pairsOf_rows]
        exact br_pos h1]
      simp only [optK_s, asInt_v]
      cases hg : goIdx badR l 0 with
      | none => rw [goIdx_none hg]; rfl
      | some k =>
        obtain ⟨h2, h3⟩ := goIdx_some (by decide) hg
        rw [h3]
        show some (bv (decide (k ≥ 0))) = _
        rw [decide_eq_true h2]
    · cases h
  · cases h
def tbR4 : Tab := [(f_slices_ContainsFunc_api_Range_api_Range, e_CR)]
theorem tbR4_ok : TabOk X tbR4 := tab_cons e_CR_ok tab_nil
theorem any_bad (l : List (Int × Int)) : (!l.any badR) = l.all mayR := by
  induction l with
  | nil => rfl
  | cons r l ih =>
    rw [List.any_cons, List.all_cons, Bool.not_or, ih]
    unfold badR
    rw [Bool.not_not]
def e_Right : List AV → Option AV
  | [.lst 2 b rows] => match pairsOf rows with
    | some l => br (decide (l.length ≤ 1000000000)) (some (bv (rightV l))) none
    | none => none
  | _ => none
theorem kRight {T : Tab} {f : FuncId} (hT : tabK T f = e_Right) {b : Bool} {l : List (Int × Int)} (h : l.length ≤ 1000000000) : tabK T f [.lst 2 b (rowsOf l)] = some (bv (rightV l)) := by
  rw [hT]
  show (match pairsOf (rowsOf l) with | some l => br (decide (l.length ≤ 1000000000)) (some (bv (rightV l))) none | none => none) = _
  rw [pairsOf_rows]
  exact br_yesD h
theorem e_Right_ok (xs : List AV) (v : AV) (h : e_Right xs = some v) : PureCall X f_uids_Right xs v := by
  unfold e_Right at h
  split at h
  · rename_i b rows
    split at h
    · rename_i l hl
      obtain ⟨h1, h⟩ := br_yes h
      cases h
      obtain rfl := rows_of_pairs hl
      refine pcuids_Right (tab_ok _ tbR4_ok) ?_
      unfold Ruids_Right rightV
      rw [rowsOf_len, show tabK tbR4 f_slices_ContainsFunc_api_Range_api_Range [AV.lst 2 b (rowsOf l), AV.fn (Fn.func 38) [] []] = some (bv (l.any badR)) by
        show (match pairsOf (rowsOf l) with | some l => br (decide (l.length ≤ 1000000000)) (some (bv (l.any badR))) none | none => none) = _
        rw [pairsOf_rows]
        exact br_pos h1]
      by_cases h2 : 1 ≤ l.length
      · rw [br_yesD (show ((l.length : Nat) : Int) ≥ 1 by omega), decide_eq_true h2]
        by_cases h3 : l.length ≤ 60
        · rw [br_yesD (show ((l.length : Nat) : Int) ≤ 60 by omega), decide_eq_true h3]
          simp only [optK_s, asBool_v, any_bad, Bool.true_and]
        · rw [br_noD (show ¬ ((l.length : Nat) : Int) ≤ 60 by omega), decide_eq_false h3]
          rfl
      · rw [br_noD (show ¬ ((l.length : Nat) : Int) ≥ 1 by omega), decide_eq_false h2]
        rfl
    · cases h
  · cases h

noncomputable def inv_rr : Sref09_Right_0 → Bool
  | .s0 b rows i => propB (∃ l, rows = rowsOf l ∧ 0 ≤ i ∧ i ≤ l.length ∧ l.length ≤ 1000000000)
theorem i_rr {b : Bool} {rows : List AV} {i : Int} (h : ∃ l, rows = rowsOf l ∧ 0 ≤ i ∧ i ≤ l.length ∧ l.length ≤ 1000000000) : inv_rr (.s0 b rows i) = true := propB_of h
def out_rr : Sref09_Right_0 → Oref09_Right_0
  | .s0 b rows i => match ((((pairsOf rows).getD []).drop i.toNat).take (61 - i.toNat)).all mayR with
    | true => .x1 b rows
    | false => .x0 b rows false
theorem badKey {β : Type} (a b : Int) (k : Bool → Option β) (l : List (Int × Int)) (i : Int) (h0 : 0 ≤ i) (hlt : i.toNat < l.length) (e : l[i.toNat] = (a, b)) :
    (optK (br (decide (0 ≤ i)) (br (decide (i < (((rowsOf l).length : Nat) : Int))) (optK (rowsOf l)[i.toNat]? fun wv4 => Ab.asAgg wv4 2 fun wg5 => Ab.asInt (wg5 0) .i64 fun wn6 => Ab.asInt (wg5 1) .i64 fun wn7 =>
      br (decide (wn6 < 0)) (some (bv true)) (br (decide (0 ≤ i)) (br (decide (i < (((rowsOf l).length : Nat) : Int))) (optK (rowsOf l)[i.toNat]? fun wv8 => Ab.asAgg wv8 2 fun wg9 => Ab.asInt (wg9 0) .i64 fun wn10 => Ab.asInt (wg9 1) .i64 fun wn11 =>
      br (decide (wn10 > 4294967295)) (some (bv true)) (br (decide (0 ≤ i)) (br (decide (i < (((rowsOf l).length : Nat) : Int))) (optK (rowsOf l)[i.toNat]? fun wv12 => Ab.asAgg wv12 2 fun wg13 => Ab.asInt (wg13 0) .i64 fun wn14 => Ab.asInt (wg13 1) .i64 fun wn15 =>
      br (decide (wn15 < 0)) (some (bv true)) (br (decide (0 ≤ i)) (br (decide (i < (((rowsOf l).length : Nat) : Int))) (optK (rowsOf l)[i.toNat]? fun wv16 => Ab.asAgg wv16 2 fun wg17 => Ab.asInt (wg17 0) .i64 fun wn18 => Ab.asInt (wg17 1) .i64 fun wn19 =>
      some (bv (decide (wn19 > 4294967295)))) none) none)) none) none)) none) none)) none) none) fun wv3 => Ab.asBool wv3 k) = k (!mayR (a, b)) := by
  have hlt2 : i < (((rowsOf l).length : Nat) : Int) := by rw [rowsOf_len]; omega
  have hg : (rowsOf l)[i.toNat]? = some (.agg [iv a, iv b]) := by rw [rowsOf_get _ _ hlt, e]
  have step : ∀ (k2 : Int → Int → Option AV), br (decide (0 ≤ i)) (br (decide (i < (((rowsOf l).length : Nat) : Int))) (optK (rowsOf l)[i.toNat]? fun wv4 => Ab.asAgg wv4 2 fun wg5 => Ab.asInt (wg5 0) .i64 fun wn6 => Ab.asInt (wg5 1) .i64 fun wn7 => k2 wn6 wn7) none) none = k2 a b := by
    intro k2
    rw [br_yesD h0, br_yesD hlt2, hg]
    simp only [optK_s]
    rw [asAgg_v _ 2 rfl]
    simp only [List.getD_cons_zero, List.getD_cons_succ, asInt_v]
  rw [step fun wn6 wn7 => _]
  unfold mayR
  by_cases q1 : a < 0
  · rw [br_yesD q1, decide_eq_false (show ¬ 0 ≤ a by omega)]; rfl
  · rw [br_noD q1, decide_eq_true (show 0 ≤ a by omega), step fun wn10 wn11 => _]
    by_cases q2 : a > 4294967295
    · rw [br_yesD q2, decide_eq_false (show ¬ a ≤ 4294967295 by omega)]; rfl
    · rw [br_noD q2, decide_eq_true (show a ≤ 4294967295 by omega), step fun wn14 wn15 => _]
      by_cases q3 : b < 0
      · rw [br_yesD q3, decide_eq_false (show ¬ 0 ≤ b by omega)]; rfl
      · rw [br_noD q3, decide_eq_true (show 0 ≤ b by omega), step fun wn18 wn19 => _]
        by_cases q4 : b > 4294967295
        · rw [decide_eq_true q4, decide_eq_false (show ¬ b ≤ 4294967295 by omega)]; rfl
        · rw [decide_eq_false q4, decide_eq_true (show b ≤ 4294967295 by omega)]; rfl
theorem l_rr (K : PureK) : ∀ s o, lOf inv_rr out_rr s = some o → ∃ k, fuelRec (Rref09_Right_0 K some) k s = some o :=
  fuel_of inv_rr out_rr (fun | .s0 _ rows i => (rows.length - i).toNat) (by
    rintro ⟨b, rows, i⟩ rec hi hrec
    obtain ⟨l, rfl, h0, h1, h2⟩ := of_propB hi
    simp only [Rref09_Right_0, out_rr, pairsOf_rows, Option.getD_some]
    by_cases h : i < l.length
    · have hlt : i.toNat < l.length := by omega
      rw [br_yesD (show i < (((rowsOf l).length : Nat) : Int) by rw [rowsOf_len]; exact h)]
      simp only [optK_s, asBool_v]
      by_cases h6 : i < 61
      · rw [br_yesD h6, badKey l[i.toNat].1 l[i.toNat].2 _ l i h0 hlt rfl, List.drop_eq_getElem_cons hlt]
        rw [show 61 - i.toNat = (61 - (i.toNat + 1)) + 1 by omega, List.take_succ_cons, List.all_cons]
        cases hm : mayR l[i.toNat] with
        | false => rfl
        | true =>
          rw [Bool.not_true, br_f, w64_id (n := i + 1) (by omega) (by omega), hrec _ (i_rr ⟨l, rfl, by omega, by omega, h2⟩) (by show (((rowsOf l).length : Nat) - (i + 1) : Int).toNat < (((rowsOf l).length : Nat) - i : Int).toNat; rw [rowsOf_len]; omega)]
          simp only [out_rr, pairsOf_rows, Option.getD_some]
          rw [show (i + 1).toNat = i.toNat + 1 by omega, Bool.true_and]
      · rw [br_noD h6, show 61 - i.toNat = 0 by omega]
        rfl
    · rw [br_noD (show ¬ i < (((rowsOf l).length : Nat) : Int) by rw [rowsOf_len]; exact h)]
      have : i.toNat = l.length := by omega
      rw [this, List.drop_length, List.take_nil]
      rfl)
theorem e_rRight_ok (xs : List AV) (v : AV) (h : e_Right xs = some v) : PureCall X f_ref09_Right xs v := by
  unfold e_Right at h
  split at h
  · rename_i b rows
    split at h
    · rename_i l hl
      obtain ⟨h1, h⟩ := br_yes h
      have h1 : l.length ≤ 1000000000 := of_decide_eq_true h1
      cases h
      obtain rfl := rows_of_pairs hl
      refine pcref09_Right (tab_ok [] tab_nil) (l_rr _) ?_
      unfold Rref09_Right
      rw [lOf_pos (i_rr ⟨l, rfl, Int.le_refl 0, by omega, h1⟩)]
      simp only [optK_s, out_rr, pairsOf_rows, Option.getD_some]
      rw [show (0 : Int).toNat = 0 from rfl, List.drop_zero, Nat.sub_zero]
      unfold rightV
      by_cases h3 : l.length ≤ 60
      · rw [List.take_of_length_le (by omega), decide_eq_true h3]
        cases hm : l.all mayR with
        | false => simp only [Oref09_Right_0.k, Bool.and_false]
        | true =>
          simp only [Oref09_Right_0.k, Bool.and_true]
          rw [rowsOf_len]
          by_cases h2 : 1 ≤ l.length
          · rw [br_yesD (show ((l.length : Nat) : Int) ≥ 1 by omega), decide_eq_true h2, decide_eq_true (show ((l.length : Nat) : Int) ≤ 60 by omega)]; rfl
          · rw [br_noD (show ¬ ((l.length : Nat) : Int) ≥ 1 by omega), decide_eq_false h2]; rfl
      · rw [decide_eq_false h3]
        simp only [Bool.false_and, Bool.and_false]
        cases (l.take 61).all mayR with
        | false => rfl
        | true =>
          simp only [Oref09_Right_0.k]
          rw [rowsOf_len, br_yesD (show ((l.length : Nat) : Int) ≥ 1 by omega), decide_eq_false (show ¬ ((l.length : Nat) : Int) ≤ 60 by omega)]
          rfl
    · cases h
  · cases h

/-- The reference's Digits, below a bound. -/
def e_Dig (k : Int) : List AV → Option AV
  | [.v (.int .i64 n)] => br (decide (0 ≤ n) && decide (n < k)) (some (sv (bs (Lib.decDigits n.toNat)))) none
  | _ => none
theorem kDig {k n : Int} (h0 : 0 ≤ n) (h : n < k) : e_Dig k [iv n] = some (sv (bs (Lib.decDigits n.toNat))) :=
  br_pos (by rw [decide_eq_true h0, decide_eq_true h]; rfl)
theorem e_Dig_ok : ∀ (k : Nat), k ≤ 4294967296 → ∀ xs v, e_Dig k xs = some v → PureCall X f_ref09_Digits xs v
  | 0, _, xs, v, h => by
    unfold e_Dig at h
    split at h
    · obtain ⟨h1, h⟩ := br_yes h
      simp only [Bool.and_eq_true, decide_eq_true_eq] at h1
      omega
    · cases h
  | k + 1, hk, xs, v, h => by
    have hT : TabOk X [(f_ref09_Digits, e_Dig k)] := tab_cons (e_Dig_ok k (by omega)) tab_nil
    unfold e_Dig at h
    split at h
    · rename_i n
      obtain ⟨h1, h⟩ := br_yes h
      simp only [Bool.and_eq_true, decide_eq_true_eq] at h1
      obtain ⟨h0, h1⟩ := h1
      cases h
      refine pcref09_Digits (tab_ok _ hT) ?_
      unfold Rref09_Digits
      by_cases h10 : n < 10
      · rw [br_yesD h10, br_yesD h0, w64_id (n := n + 1) (by omega) (by omega), br_yesD (by omega), br_yesD (by omega), Lib.decDigits_one (by omega)]
        rw [show ({ data := #[48, 49, 50, 51, 52, 53, 54, 55, 56, 57] } : ByteArray) = bs [48, 49, 50, 51, 52, 53, 54, 55, 56, 57] from rfl, cut_both]
        have : n = 0 ∨ n = 1 ∨ n = 2 ∨ n = 3 ∨ n = 4 ∨ n = 5 ∨ n = 6 ∨ n = 7 ∨ n = 8 ∨ n = 9 := by omega
        rcases this with rfl | rfl | rfl | rfl | rfl | rfl | rfl | rfl | rfl | rfl <;> rfl
      · have hd : n.tdiv 10 = n / 10 := by rw [Int.tdiv_eq_ediv_of_nonneg h0]
        have hm : n.tmod 10 = n % 10 := by rw [Int.tmod_eq_emod_of_nonneg h0]
        rw [br_noD h10, hd, hm, w64_id (n := n / 10) (by omega) (by omega)]
        rw [show tabK [(f_ref09_Digits, e_Dig k)] f_ref09_Digits [iv (n / 10)] = _ from kDig (k := k) (by omega) (by omega), show tabK [(f_ref09_Digits, e_Dig k)] f_ref09_Digits [iv (n % 10)] = _ from kDig (k := k) (by omega) (by omega)]
        simp only [optK_s, asStr_v]
        have l1 := dec_len 9 (n / 10).toNat (by omega)
        have l2 := dec_len 9 (n % 10).toNat (by omega)
        rw [bs_size, bs_size, br_pos (ble_ok (by omega)), bs_append]
        rw [show Lib.decDigits n.toNat = Lib.decDigits (n / 10).toNat ++ Lib.decDigits (n % 10).toNat by
          conv => lhs; rw [Lib.decDigits, dif_neg (show ¬ n.toNat < 10 by omega)]
          rw [show (n / 10).toNat = n.toNat / 10 by omega, Lib.decDigits_one (show (n % 10).toNat < 10 by omega), show (n % 10).toNat = n.toNat % 10 by omega]]
    · cases h
def e_End : List AV → Option AV
  | [.v (.int .i64 n)] => br (decide (0 ≤ n) && decide (n ≤ 4294967295)) (some (sv (bs (endV n)))) none
  | _ => none
theorem kEnd {T : Tab} {f : FuncId} (hT : tabK T f = e_End) {n : Int} (h0 : 0 ≤ n) (h1 : n ≤ 4294967295) : tabK T f [iv n] = some (sv (bs (endV n))) := by
  rw [hT]
  exact br_pos (by rw [decide_eq_true h0, decide_eq_true h1]; rfl)
def tbRe : Tab := [(f_ref09_Digits, e_Dig 4294967296)]
theorem tbRe_ok : TabOk X tbRe := tab_cons (e_Dig_ok 4294967296 (Nat.le_refl _)) tab_nil
theorem e_rEnd_ok (xs : List AV) (v : AV) (h : e_End xs = some v) : PureCall X f_ref09_end xs v := by
  unfold e_End at h
  split at h
  · rename_i n
    obtain ⟨h1, h⟩ := br_yes h
    simp only [Bool.and_eq_true, decide_eq_true_eq] at h1
    obtain ⟨h0, h1⟩ := h1
    cases h
    refine pcref09_end (tab_ok _ tbRe_ok) ?_
    unfold Rref09_end
    by_cases hz : n = 0
    · subst hz; rfl
    · rw [br_neg (by simpa using hz), show tabK tbRe f_ref09_Digits [iv n] = _ from kDig (k := 4294967296) h0 (by omega), endV_pos (by omega)]
      rfl
  · cases h
def tbUe : Tab := [(f_strconv_Itoa, e_Itoa)]
theorem tbUe_ok : TabOk X tbUe := tab_cons e_Itoa_ok tab_nil
theorem e_End_ok (xs : List AV) (v : AV) (h : e_End xs = some v) : PureCall X f_uids_end xs v := by
  unfold e_End at h
  split at h
  · rename_i n
    obtain ⟨h1, h⟩ := br_yes h
    simp only [Bool.and_eq_true, decide_eq_true_eq] at h1
    obtain ⟨h0, h1⟩ := h1
    cases h
    refine pcuids_end (tab_ok _ tbUe_ok) ?_
    unfold Ruids_end
    by_cases hz : n = 0
    · subst hz; rfl
    · rw [br_neg (by simpa using hz), show tabK tbUe f_strconv_Itoa [iv n] = some (sv (bs (Lib.itoa n))) from br_pos (by rw [decide_eq_true h0, decide_eq_true (show n ≤ 9223372036854775807 by omega)]; rfl)]
      unfold endV
      rw [decide_eq_false hz]
      rfl
  · cases h
end Go.Proofs.YtckbjhmiopjlkaaDoor
