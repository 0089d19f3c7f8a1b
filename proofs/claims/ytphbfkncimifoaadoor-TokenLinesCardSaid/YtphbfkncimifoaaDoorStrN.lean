import Derived.Test.YtphbfkncimifoaaDoorStrT
set_option linter.unusedVariables false
set_option linter.unusedSimpArgs false
set_option maxRecDepth 100000
namespace Go.Proofs.YtphbfkncimifoaaDoor
open Go Go.Ab

/-- The number that digits say. -/
def numGo : List UInt8 → Int → Int
  | [], n => n
  | b :: l, n => numGo l (n * 10 + ((b.toNat : Int) - 48))
theorem numGo_range : ∀ (l : List UInt8) (n : Int), l.all isDig = true → 0 ≤ n → 0 ≤ numGo l n ∧ numGo l n < (n + 1) * 10 ^ l.length
  | [], n, _, h => by simp [numGo]; omega
  | b :: l, n, hd, h => by
    simp only [List.all_cons, Bool.and_eq_true, isDig, decide_eq_true_eq] at hd
    have ih := numGo_range l (n * 10 + ((b.toNat : Int) - 48)) hd.2 (by omega)
    refine ⟨ih.1, Int.lt_of_lt_of_le ih.2 ?_⟩
    rw [List.length_cons, Int.pow_succ, Int.mul_comm ((10 : Int) ^ l.length) 10, ← Int.mul_assoc]
    exact Int.mul_le_mul_of_nonneg_right (by omega) (Int.pow_nonneg (by omega))
def bsOf : List AV → List UInt8
  | [] => []
  | .v (.int _ n) :: l => n.toNat.toUInt8 :: bsOf l
  | _ :: l => bsOf l
theorem bsOf_map : ∀ l : List UInt8, bsOf (l.map fun b => uv b.toNat) = l
  | [] => rfl
  | b :: l => by simp only [List.map_cons, bsOf, bsOf_map l, toU8]

/-- Atoi's loop over digits, few enough. -/
noncomputable def inv_at : Si_strconv_Atoi_0 → Bool
  | .s0 s n rows len i => propB (∃ l : List UInt8, rows = (l.map fun b => uv (b.toNat : Int)) ∧ l.all isDig = true ∧ len = l.length ∧ l.length ≤ 18 ∧ 0 ≤ i ∧ i ≤ len ∧ 0 ≤ n ∧ n < 10 ^ i.toNat)
theorem i_at {s : ByteArray} {n : Int} {rows : List AV} {len i : Int} (h : ∃ l : List UInt8, rows = (l.map fun b => uv (b.toNat : Int)) ∧ l.all isDig = true ∧ len = l.length ∧ l.length ≤ 18 ∧ 0 ≤ i ∧ i ≤ len ∧ 0 ≤ n ∧ n < 10 ^ i.toNat) : inv_at (.s0 s n rows len i) = true := propB_of h
def out_at : Si_strconv_Atoi_0 → Oi_strconv_Atoi_0
  | .s0 s n rows len i => .x1 s (numGo ((bsOf rows).drop i.toNat) n)
theorem pow_le_18 {k : Nat} (h : k ≤ 18) : (10 : Int) ^ k ≤ 1000000000000000000 := by
  have : k = 0 ∨ k = 1 ∨ k = 2 ∨ k = 3 ∨ k = 4 ∨ k = 5 ∨ k = 6 ∨ k = 7 ∨ k = 8 ∨ k = 9 ∨ k = 10 ∨ k = 11 ∨ k = 12 ∨ k = 13 ∨ k = 14 ∨ k = 15 ∨ k = 16 ∨ k = 17 ∨ k = 18 := by omega
  rcases this with rfl | rfl | rfl | rfl | rfl | rfl | rfl | rfl | rfl | rfl | rfl | rfl | rfl | rfl | rfl | rfl | rfl | rfl | rfl <;> decide
theorem w8_id {n : Int} (h1 : 0 ≤ n) (h2 : n < 256) : w8 n = n := by
  unfold w8 IntKind.wrap
  simp [IntKind.bits, IntKind.signed]
  omega
theorem l_at (K : PureK) : ∀ s o, lOf inv_at out_at s = some o → ∃ k, fuelRec (Ri_strconv_Atoi_0 K some) k s = some o :=
  fuel_of inv_at out_at (fun | .s0 s n rows len i => (len - i).toNat) (by
    rintro ⟨s, n, rows, len, i⟩ rec hi hrec
    obtain ⟨l, rfl, hd, rfl, h18, h0, hil, hn0, hn⟩ := of_propB hi
    simp only [Ri_strconv_Atoi_0]
    by_cases h : i < (l.length : Int)
    · have hlt : i.toNat < l.length := by omega
      have hb : isDig l[i.toNat] = true := List.all_eq_true.1 hd _ (List.getElem_mem hlt)
      simp only [isDig, Bool.and_eq_true, decide_eq_true_eq] at hb
      rw [br_yesD h, br_yesD h0, br_yesD (by rw [List.length_map]; exact h), List.getElem?_map, List.getElem?_eq_getElem hlt]
      simp only [Option.map_some, optK_s, asInt_v]
      have hp := pow_le_18 (k := i.toNat + 1) (by omega)
      have hn10 : n * 10 + 10 ≤ 10 ^ (i.toNat + 1) := by rw [Int.pow_succ]; omega
      rw [w8_id (n := ((l[i.toNat].toNat : Int)) - 48) (by omega) (by omega), br_noD (by omega)]
      rw [w64_id (n := n * 10) (by omega) (by omega), w64_id (n := ((l[i.toNat].toNat : Int)) - 48) (by omega) (by omega), w64_id (n := n * 10 + (((l[i.toNat].toNat : Int)) - 48)) (by omega) (by omega), w64_id (n := i + 1) (by omega) (by omega)]
      rw [hrec _ (i_at ⟨l, rfl, hd, rfl, h18, by omega, by omega, by omega, by rw [show (i + 1).toNat = i.toNat + 1 by omega]; omega⟩) (by show ((l.length : Int) - (i + 1)).toNat < ((l.length : Int) - i).toNat; omega)]
      simp only [out_at, bsOf_map]
      rw [show (i + 1).toNat = i.toNat + 1 by omega, List.drop_eq_getElem_cons hlt]
      rfl
    · rw [br_noD h]
      simp only [out_at, bsOf_map]
      rw [List.drop_of_length_le (by omega)]
      rfl)
theorem t_iAtoi (K : PureK) (l : List UInt8) (hd : l.all isDig = true) (h1 : 1 ≤ l.length) (h18 : l.length ≤ 18) : Ri_strconv_Atoi K (lOf inv_at out_at) (bs l) = some (.tup [iv (numGo l 0), .v .nilIface]) := by
  unfold Ri_strconv_Atoi
  obtain ⟨a, t, rfl⟩ : ∃ a t, l = a :: t := by cases l with | nil => simp at h1 | cons a t => exact ⟨a, t, rfl⟩
  have ha : isDig a = true := by simp only [List.all_cons, Bool.and_eq_true] at hd; exact hd.1
  simp only [isDig, Bool.and_eq_true, decide_eq_true_eq] at ha
  rw [bs_size, br_yesD (by omega)]
  simp only [optK_s, asBool_v]
  rw [br_yesD (by omega)]
  simp only [bt_bs, List.getElem?_cons_zero, Option.getD_some]
  have e45 : (((a.toNat : Int)) == 45) = false := by simp; omega
  have e43 : (((a.toNat : Int)) == 43) = false := by simp; omega
  rw [br_yesD (by omega), e45, br_f, br_yesD (by omega), e43]
  simp only [optK_s, asBool_v, br_f, bytesRows_bs]
  rw [lOf_pos (i_at ⟨a :: t, rfl, hd, by simp, h18, by omega, by simp; omega, by omega, by simp⟩)]
  simp only [optK_s, out_at, Oi_strconv_Atoi_0.k, bsOf_map, bs_size, bt_bs, List.getElem?_cons_zero, Option.getD_some]
  rw [br_yesD (by omega), e45, br_f]
  rfl
def e_iAtoi : List AV → Option AV
  | [.v (.string s)] => br (s.data.toList.all isDig && decide (1 ≤ s.data.toList.length) && decide (s.data.toList.length ≤ 18)) (some (.tup [iv (numGo s.data.toList 0), .v .nilIface])) none
  | _ => none
theorem e_iAtoi_ok (xs : List AV) (v : AV) (h : e_iAtoi xs = some v) : PureCall X f_i_strconv_Atoi xs v := by
  unfold e_iAtoi at h
  split at h
  · rename_i s
    obtain ⟨h1, h2⟩ := br_yes h
    cases h2
    obtain ⟨l, rfl⟩ := exists_bs s
    simp only [bs_list, Bool.and_eq_true, decide_eq_true_eq] at h1
    rw [bs_list]
    exact pci_strconv_Atoi ok_nil (l_at _) (t_iAtoi _ l h1.1.1 h1.1.2 h1.2)
  · cases h
def tbA1 : Tab := [(f_i_strconv_Atoi, e_iAtoi)]
theorem tbA1_ok : TabOk X tbA1 := tab_cons e_iAtoi_ok tab_nil
theorem e_Atoi_ok (xs : List AV) (v : AV) (h : e_iAtoi xs = some v) : PureCall X f_strconv_Atoi xs v := by
  have h' := h
  unfold e_iAtoi at h
  split at h
  · rename_i s
    obtain ⟨h1, h2⟩ := br_yes h
    cases h2
    exact pcstrconv_Atoi (tab_ok _ tbA1_ok) (by
      unfold Rstrconv_Atoi
      rw [show tabK tbA1 f_i_strconv_Atoi [sv s] = some (.tup [iv (numGo s.data.toList 0), .v .nilIface]) from h']
      rfl)
  · cases h
end Go.Proofs.YtphbfkncimifoaaDoor
