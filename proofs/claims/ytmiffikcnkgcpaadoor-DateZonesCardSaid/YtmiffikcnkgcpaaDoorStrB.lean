import Derived.Test.YtmiffikcnkgcpaaDoorToldStr
import Derived.Test.YtmiffikcnkgcpaaDoorAbStr
set_option linter.unusedVariables false
set_option linter.unusedSimpArgs false
set_option maxRecDepth 100000
namespace Go.Proofs.YtmiffikcnkgcpaaDoor
open Go Go.Ab



def isDig (b : UInt8) : Bool := decide (48 ≤ b.toNat) && decide (b.toNat ≤ 57)
def setOf (p : UInt8 → Bool) : List AV := (List.range 256).map fun i => bv (p (UInt8.ofNat i))
theorem setOf_get (p : UInt8 → Bool) (b : UInt8) : (setOf p)[0 + ((b.toNat : Int)).toNat * 1]? = some (bv (p b)) := by
  have hb := b.toNat_lt
  rw [show 0 + ((b.toNat : Int)).toNat * 1 = b.toNat by omega]
  unfold setOf
  rw [List.getElem?_map, List.getElem?_range hb]
  simp
theorem setOf_length (p : UInt8 → Bool) : (setOf p).length = 256 := by simp [setOf]

def trimR (p : UInt8 → Bool) (l : List UInt8) : List UInt8 := (l.reverse.dropWhile p).reverse
theorem trimR_nil (p : UInt8 → Bool) : trimR p [] = [] := rfl
theorem trimR_app (p : UInt8 → Bool) (l : List UInt8) (a : UInt8) : trimR p (l ++ [a]) = if p a = true then trimR p l else l ++ [a] := by
  unfold trimR
  simp only [List.reverse_append, List.reverse_cons, List.reverse_nil, List.nil_append, List.singleton_append, List.dropWhile_cons]
  split <;> simp
def trimB (p : UInt8 → Bool) (l : List UInt8) : List UInt8 := (trimR p l).dropWhile p
theorem trimB_nil (p : UInt8 → Bool) (l : List UInt8) : (trimB p l == []) = l.all p := by
  have h1 : ∀ l : List UInt8, l.dropWhile p = [] ↔ ∀ x ∈ l, p x = true := by
    intro l
    induction l with
    | nil => simp
    | cons a l ih =>
      rw [List.dropWhile_cons]
      split
      · rename_i h; rw [ih]; simp [h]
      · rename_i h; simp [h]
  rw [Bool.eq_iff_iff, beq_iff_eq, List.all_eq_true]
  unfold trimB trimR
  rw [h1]
  constructor
  · intro h
    -- what is left at the right has but such bytes: so nothing is left
    have h2 : l.reverse.dropWhile p = [] := by
      cases hd : l.reverse.dropWhile p with
      | nil => rfl
      | cons a t =>
        have ha : p a = false := by
          have := List.head_dropWhile_not p (l := l.reverse) (by rw [hd]; simp)
          simpa [hd] using this
        have := h a (by rw [hd]; simp)
        rw [ha] at this; cases this
    intro x hx
    exact (h1 _).1 h2 x (by simpa using hx)
  · intro h x hx
    have : x ∈ l.reverse := (List.dropWhile_sublist p).subset (by simpa using hx)
    exact h x (by simpa using this)

/-- The loops of strings.Trim at a set. -/
noncomputable def inv_tr (p : UInt8 → Bool) : Sstrings_Trim_strings_trimRightASCII_0 → Bool
  | .s0 s row => propB (row = setOf p ∧ s.size ≤ 70368744177664)
theorem i_tr {p : UInt8 → Bool} {s : ByteArray} {row : List AV} (h : row = setOf p ∧ s.size ≤ 70368744177664) : inv_tr p (.s0 s row) = true := propB_of h
def out_tr (p : UInt8 → Bool) : Sstrings_Trim_strings_trimRightASCII_0 → Ostrings_Trim_strings_trimRightASCII_0
  | .s0 s row => .x0 (bs (trimR p s.data.toList)) row
theorem l_tr (p : UInt8 → Bool) (K : PureK) : ∀ s o, lOf (inv_tr p) (out_tr p) s = some o → ∃ k, fuelRec (Rstrings_Trim_strings_trimRightASCII_0 K some) k s = some o :=
  fuel_of (inv_tr p) (out_tr p) (fun | .s0 s row => s.size) (by
    rintro ⟨s, row⟩ rec hi hrec
    obtain ⟨rfl, hs⟩ := of_propB hi
    obtain ⟨l, rfl⟩ := exists_bs s
    rw [bs_size] at hs
    simp only [Rstrings_Trim_strings_trimRightASCII_0, bs_size, bt_bs]
    rcases List.eq_nil_or_concat l with rfl | ⟨l, a, rfl⟩
    · rfl
    · have hlen : (l ++ [a]).length = l.length + 1 := by simp
      rw [List.concat_eq_append] at *
      rw [hlen] at hs ⊢
      rw [w64_id (n := ((l.length + 1 : Nat) : Int) - 1) (by omega) (by omega)]
      have hto : (((l.length + 1 : Nat) : Int) - 1).toNat = l.length := by omega
      rw [hto]
      have hget : (l ++ [a])[l.length]?.getD 0 = a := by simp
      have ha := a.toNat_lt
      rw [hget, br_yesD (by omega), br_yesD (by omega), br_yesD (by omega), br_yesD (by omega), setOf_get]
      simp only [optK_s, asBool_v]
      simp only [out_tr, bs_list, trimR_app]
      cases hp : p a with
      | false => rfl
      | true =>
        rw [Bool.not_true, br_f, br_yesD (by omega), br_yesD (by omega), cut_to, hto, List.take_left' rfl]
        rw [hrec _ (i_tr ⟨rfl, by rw [bs_size]; omega⟩) (by show (bs l).size < (bs (l ++ [a])).size; rw [bs_size, bs_size, hlen]; omega)]
        simp [out_tr, bs_list])

noncomputable def inv_tl (p : UInt8 → Bool) : Sstrings_Trim_strings_trimLeftASCII_0 → Bool
  | .s0 s row => propB (row = setOf p)
theorem i_tl {p : UInt8 → Bool} {s : ByteArray} {row : List AV} (h : row = setOf p) : inv_tl p (.s0 s row) = true := propB_of h
def out_tl (p : UInt8 → Bool) : Sstrings_Trim_strings_trimLeftASCII_0 → Ostrings_Trim_strings_trimLeftASCII_0
  | .s0 s row => .x0 (bs (s.data.toList.dropWhile p)) row
theorem l_tl (p : UInt8 → Bool) (K : PureK) : ∀ s o, lOf (inv_tl p) (out_tl p) s = some o → ∃ k, fuelRec (Rstrings_Trim_strings_trimLeftASCII_0 K some) k s = some o :=
  fuel_of (inv_tl p) (out_tl p) (fun | .s0 s row => s.size) (by
    rintro ⟨s, row⟩ rec hi hrec
    obtain rfl := of_propB hi
    obtain ⟨l, rfl⟩ := exists_bs s
    simp only [Rstrings_Trim_strings_trimLeftASCII_0, bs_size, bt_bs]
    cases l with
    | nil => rfl
    | cons a l =>
      have ha := a.toNat_lt
      simp only [List.length_cons, List.getElem?_cons_zero, Option.getD_some]
      rw [br_yesD (by omega), br_yesD (by omega), br_yesD (by omega), setOf_get]
      simp only [optK_s, asBool_v, out_tl, bs_list, List.dropWhile_cons]
      cases hp : p a with
      | false => rfl
      | true =>
        rw [Bool.not_true, br_f, br_yesD (by omega), cut_from]
        simp only [show (1 : Int).toNat = 1 from rfl, List.drop_succ_cons, List.drop_zero, if_true]
        rw [hrec _ (i_tl rfl) (by show (bs l).size < (bs (a :: l)).size; rw [bs_size, bs_size]; simp)]
        simp [out_tl, bs_list])

def digL : List UInt8 := [48, 49, 50, 51, 52, 53, 54, 55, 56, 57]
def e_set (cut : List UInt8) (p : UInt8 → Bool) : List AV → Option AV
  | [.v (.string s)] => br (s.data.toList == cut) (some (.tup [.agg (setOf p), bv true])) none
  | _ => none
theorem pc_set_dig : PureCall X f_strings_makeASCIISet [sv (bs digL)] (.tup [.agg (setOf isDig), bv true]) := top_ok soundX (ev_ok soundX ovr_ok 3) 300 _ _ _ (by kernel_rfl)
theorem e_set_dig_ok (xs : List AV) (v : AV) (h : e_set digL isDig xs = some v) : PureCall X f_strings_makeASCIISet xs v := by
  unfold e_set at h
  split at h
  · rename_i s
    obtain ⟨h1, h2⟩ := br_yes h
    cases h2
    have : s = bs digL := by rw [← bs_eta s, beq_iff_eq.1 h1]
    subst this
    exact pc_set_dig
  · cases h
def tbT : Tab := [(f_strings_makeASCIISet, e_set digL isDig)]
theorem tbT_ok : TabOk X tbT := tab_cons e_set_dig_ok tab_nil

theorem fits_set (p : UInt8 → Bool) : refFree (AV.tup [AV.agg (setOf p), bv true]) = true := by
  have : ∀ l : List Nat, refFrees (l.map fun i => bv (p (UInt8.ofNat i))) = true := by
    intro l; induction l with
    | nil => rfl
    | cons a l ih => simp only [List.map_cons, refFrees, Bool.and_eq_true]; exact ⟨rfl, ih⟩
  simp only [refFree, refFrees, Bool.and_true]
  exact this _

theorem t_Trim_dig (l : List UInt8) (hl : l.length ≤ 1000000000) : Rstrings_Trim (tabK tbT) (lOf (inv_tr isDig) (out_tr isDig)) (lOf (inv_tl isDig) (out_tl isDig)) (bs l) (bs digL) = some (sv (bs (trimB isDig l))) := by
  unfold Rstrings_Trim
  rw [emp, strEq_bs, strEq_bs]
  cases l with
  | nil => rfl
  | cons a t =>
    have h1 : ((a :: t : List UInt8) == []) = false := rfl
    rw [h1, show (digL == []) = false from rfl]
    simp only [br_f, br_t, optK_s, asBool_v, bs_size]
    rw [show ((((digL.length : Nat) : Int)) == 1) = false from rfl]
    simp only [br_f, optK_s, asBool_v]
    rw [show tabK tbT f_strings_makeASCIISet [sv (bs digL)] = br ((bs digL).data.toList == digL) (some (.tup [.agg (setOf isDig), bv true])) none from rfl, bs_list, br_pos (by simp)]
    simp only [optK_s]
    rw [asTup_v _ 2 rfl]
    simp only [List.getD_cons_zero, List.getD_cons_succ, asBig, setOf_length, asBool_v]
    rw [br_pos rfl, br_pos (fits_set isDig)]
    refine (br_pos (by kernel_rfl)).trans ?_
    rw [lOf_pos (i_tr ⟨rfl, by rw [bs_size]; omega⟩)]
    simp only [optK_s, out_tr, Ostrings_Trim_strings_trimRightASCII_0.k, bs_list]
    rw [lOf_pos (i_tl rfl)]
    simp only [optK_s, out_tl, Ostrings_Trim_strings_trimLeftASCII_0.k, bs_list]
    rfl
def e_Trim : List AV → Option AV
  | [.v (.string s), .v (.string c)] => br (c.data.toList == digL && decide (s.size ≤ 1000000000)) (some (sv (bs (trimB isDig s.data.toList)))) none
  | _ => none
theorem e_Trim_ok (xs : List AV) (v : AV) (h : e_Trim xs = some v) : PureCall X f_strings_Trim xs v := by
  unfold e_Trim at h
  split at h
  · rename_i s c
    obtain ⟨h1, h2⟩ := br_yes h
    cases h2
    simp only [Bool.and_eq_true, beq_iff_eq, decide_eq_true_eq] at h1
    obtain ⟨l, rfl⟩ := exists_bs s
    have : c = bs digL := by rw [← bs_eta c, h1.1]
    subst this
    rw [bs_size] at h1
    rw [bs_list]
    exact pcstrings_Trim (tab_ok _ tbT_ok) (l_tr isDig _) (l_tl isDig _) (t_Trim_dig l h1.2)
  · cases h

theorem t_HasPrefix (a b : List UInt8) (K : PureK) : Ri_stringslite_HasPrefix K (bs a) (bs b) = some (bv (b.isPrefixOf a)) := by
  unfold Ri_stringslite_HasPrefix
  simp only [bs_size, cut_to]
  have : (a.take ((b.length : Nat) : Int).toNat == b) = (decide (b.length ≤ a.length) && b.isPrefixOf a) := by
    rw [show ((b.length : Nat) : Int).toNat = b.length by omega, Bool.eq_iff_iff]
    simp only [beq_iff_eq, Bool.and_eq_true, decide_eq_true_eq, List.isPrefixOf_iff_prefix]
    constructor
    · intro h
      have h1 : b <+: a := ⟨a.drop b.length, by have := List.take_append_drop b.length a; rw [h] at this; exact this⟩
      exact ⟨h1.length_le, h1⟩
    · rintro ⟨_, t, rfl⟩; simp
  by_cases h : b.length ≤ a.length
  · rw [br_yesD (by omega), br_yesD (by omega), strEq_bs, this, decide_eq_true h]
    simp only [optK_s, asBool_v, Bool.true_and]
  · rw [br_noD (by omega)]
    have hn : b.isPrefixOf a = false := by
      rw [Bool.eq_false_iff]
      intro hp
      exact h (List.isPrefixOf_iff_prefix.1 hp).length_le
    rw [hn]; rfl
def e_HasPrefix : List AV → Option AV
  | [.v (.string s), .v (.string p)] => some (bv (p.data.toList.isPrefixOf s.data.toList))
  | _ => none
theorem e_HasPrefix_ok (xs : List AV) (v : AV) (h : e_HasPrefix xs = some v) : PureCall X f_i_stringslite_HasPrefix xs v := by
  unfold e_HasPrefix at h
  split at h
  · rename_i s p
    cases h
    obtain ⟨l, rfl⟩ := exists_bs s
    obtain ⟨m, rfl⟩ := exists_bs p
    rw [bs_list, bs_list]
    exact pci_stringslite_HasPrefix ok_nil (t_HasPrefix l m _)
  · cases h
def trimPre (p l : List UInt8) : List UInt8 := if p.isPrefixOf l = true then l.drop p.length else l
def tbP1 : Tab := [(f_i_stringslite_HasPrefix, e_HasPrefix)]
theorem tbP1_ok : TabOk X tbP1 := tab_cons e_HasPrefix_ok tab_nil
theorem t_sTrimPrefix (a b : List UInt8) : Ri_stringslite_TrimPrefix (tabK tbP1) (bs a) (bs b) = some (sv (bs (trimPre b a))) := by
  unfold Ri_stringslite_TrimPrefix trimPre
  rw [show tabK tbP1 f_i_stringslite_HasPrefix [sv (bs a), sv (bs b)] = some (bv ((bs b).data.toList.isPrefixOf (bs a).data.toList)) from rfl, bs_list, bs_list]
  simp only [optK_s, asBool_v, bs_size, cut_from]
  cases h : b.isPrefixOf a with
  | false => rfl
  | true =>
    have := (List.isPrefixOf_iff_prefix.1 h).length_le
    rw [br_t, br_yesD (by omega), if_pos rfl, show ((b.length : Nat) : Int).toNat = b.length by omega]
def e_TrimPrefix : List AV → Option AV
  | [.v (.string s), .v (.string p)] => some (sv (bs (trimPre p.data.toList s.data.toList)))
  | _ => none
theorem e_sTrimPrefix_ok (xs : List AV) (v : AV) (h : e_TrimPrefix xs = some v) : PureCall X f_i_stringslite_TrimPrefix xs v := by
  unfold e_TrimPrefix at h
  split at h
  · rename_i s p
    cases h
    obtain ⟨l, rfl⟩ := exists_bs s
    obtain ⟨m, rfl⟩ := exists_bs p
    rw [bs_list, bs_list]
    exact pci_stringslite_TrimPrefix (tab_ok _ tbP1_ok) (t_sTrimPrefix l m)
  · cases h
def tbP2 : Tab := [(f_i_stringslite_TrimPrefix, e_TrimPrefix)]
theorem tbP2_ok : TabOk X tbP2 := tab_cons e_sTrimPrefix_ok tab_nil
theorem e_TrimPrefix_ok (xs : List AV) (v : AV) (h : e_TrimPrefix xs = some v) : PureCall X f_strings_TrimPrefix xs v := by
  unfold e_TrimPrefix at h
  split at h
  · rename_i s p
    cases h
    exact pcstrings_TrimPrefix (tab_ok _ tbP2_ok) (by
      unfold Rstrings_TrimPrefix
      rw [show tabK tbP2 f_i_stringslite_TrimPrefix [sv s, sv p] = some (sv (bs (trimPre p.data.toList s.data.toList))) from rfl]
      simp only [optK_s, asStr_v])
  · cases h

/-- The number that digits say. -/
def numGo : List UInt8 → Int → Int
  | [], n => n
  | b :: l, n => numGo l (n * 10 + ((b.toNat : Int) - 48))
theorem numGo_range : ∀ (l : List UInt8) (n : Int), l.all isDig = true → 0 ≤ n → 0 ≤ numGo l n ∧ numGo l n < (n + 1) * 10 ^ l.length
  | [], n, _, h => by simp [numGo]; omega
  | b :: l, n, hd, h => by
    simp only [List.all_cons, Bool.and_eq_true, isDig, decide_eq_true_eq] at hd
    have ih := numGo_range l (n * 10 + ((b.toNat : Int) - 48)) hd.2 (by omega)
    refine ⟨ih.1, Int.lt_of_lt_of_le ih.2 ?_⟩
    rw [List.length_cons, Int.pow_succ, Int.mul_comm ((10 : Int) ^ l.length) 10, ← Int.mul_assoc]
    exact Int.mul_le_mul_of_nonneg_right (by omega) (Int.pow_nonneg (by omega))
def bsOf : List AV → List UInt8
  | [] => []
  | .v (.int _ n) :: l => n.toNat.toUInt8 :: bsOf l
  | _ :: l => bsOf l
theorem bsOf_map : ∀ l : List UInt8, bsOf (l.map fun b => uv b.toNat) = l
  | [] => rfl
  | b :: l => by simp only [List.map_cons, bsOf, bsOf_map l, toU8]

/-- Atoi's loop over digits, few enough. -/
noncomputable def inv_at : Si_strconv_Atoi_0 → Bool
  | .s0 s n rows len i => propB (∃ l : List UInt8, rows = (l.map fun b => uv (b.toNat : Int)) ∧ l.all isDig = true ∧ len = l.length ∧ l.length ≤ 18 ∧ 0 ≤ i ∧ i ≤ len ∧ 0 ≤ n ∧ n < 10 ^ i.toNat)
theorem i_at {s : ByteArray} {n : Int} {rows : List AV} {len i : Int} (h : ∃ l : List UInt8, rows = (l.map fun b => uv (b.toNat : Int)) ∧ l.all isDig = true ∧ len = l.length ∧ l.length ≤ 18 ∧ 0 ≤ i ∧ i ≤ len ∧ 0 ≤ n ∧ n < 10 ^ i.toNat) : inv_at (.s0 s n rows len i) = true := propB_of h
def out_at : Si_strconv_Atoi_0 → Oi_strconv_Atoi_0
  | .s0 s n rows len i => .x1 s (numGo ((bsOf rows).drop i.toNat) n)
theorem pow_le_18 {k : Nat} (h : k ≤ 18) : (10 : Int) ^ k ≤ 1000000000000000000 := by
  have : k = 0 ∨ k = 1 ∨ k = 2 ∨ k = 3 ∨ k = 4 ∨ k = 5 ∨ k = 6 ∨ k = 7 ∨ k = 8 ∨ k = 9 ∨ k = 10 ∨ k = 11 ∨ k = 12 ∨ k = 13 ∨ k = 14 ∨ k = 15 ∨ k = 16 ∨ k = 17 ∨ k = 18 := by omega
  rcases this with rfl | rfl | rfl | rfl | rfl | rfl | rfl | rfl | rfl | rfl | rfl | rfl | rfl | rfl | rfl | rfl | rfl | rfl | rfl <;> decide
theorem w8_id {n : Int} (h1 : 0 ≤ n) (h2 : n < 256) : w8 n = n := by
  unfold w8 IntKind.wrap
  simp [IntKind.bits, IntKind.signed]
  omega
theorem l_at (K : PureK) : ∀ s o, lOf inv_at out_at s = some o → ∃ k, fuelRec (Ri_strconv_Atoi_0 K some) k s = some o :=
  fuel_of inv_at out_at (fun | .s0 s n rows len i => (len - i).toNat) (by
    rintro ⟨s, n, rows, len, i⟩ rec hi hrec
    obtain ⟨l, rfl, hd, rfl, h18, h0, hil, hn0, hn⟩ := of_propB hi
    simp only [Ri_strconv_Atoi_0]
    by_cases h : i < (l.length : Int)
    · have hlt : i.toNat < l.length := by omega
      have hb : isDig l[i.toNat] = true := List.all_eq_true.1 hd _ (List.getElem_mem hlt)
      simp only [isDig, Bool.and_eq_true, decide_eq_true_eq] at hb
      rw [br_yesD h, br_yesD h0, br_yesD (by rw [List.length_map]; exact h), List.getElem?_map, List.getElem?_eq_getElem hlt]
      simp only [Option.map_some, optK_s, asInt_v]
      have hp := pow_le_18 (k := i.toNat + 1) (by omega)
      have hn10 : n * 10 + 10 ≤ 10 ^ (i.toNat + 1) := by rw [Int.pow_succ]; omega
      rw [w8_id (n := ((l[i.toNat].toNat : Int)) - 48) (by omega) (by omega), br_noD (by omega)]
      rw [w64_id (n := n * 10) (by omega) (by omega), w64_id (n := ((l[i.toNat].toNat : Int)) - 48) (by omega) (by omega), w64_id (n := n * 10 + (((l[i.toNat].toNat : Int)) - 48)) (by omega) (by omega), w64_id (n := i + 1) (by omega) (by omega)]
      rw [hrec _ (i_at ⟨l, rfl, hd, rfl, h18, by omega, by omega, by omega, by rw [show (i + 1).toNat = i.toNat + 1 by omega]; omega⟩) (by show ((l.length : Int) - (i + 1)).toNat < ((l.length : Int) - i).toNat; omega)]
      simp only [out_at, bsOf_map]
      rw [show (i + 1).toNat = i.toNat + 1 by omega, List.drop_eq_getElem_cons hlt]
      rfl
    · rw [br_noD h]
      simp only [out_at, bsOf_map]
      rw [List.drop_of_length_le (by omega)]
      rfl)
theorem t_iAtoi (K : PureK) (l : List UInt8) (hd : l.all isDig = true) (h1 : 1 ≤ l.length) (h18 : l.length ≤ 18) : Ri_strconv_Atoi K (lOf inv_at out_at) (bs l) = some (.tup [iv (numGo l 0), .v .nilIface]) := by
  unfold Ri_strconv_Atoi
  obtain ⟨a, t, rfl⟩ : ∃ a t, l = a :: t := by cases l with | nil => simp at h1 | cons a t => exact ⟨a, t, rfl⟩
  have ha : isDig a = true := by simp only [List.all_cons, Bool.and_eq_true] at hd; exact hd.1
  simp only [isDig, Bool.and_eq_true, decide_eq_true_eq] at ha
  rw [bs_size, br_yesD (by omega)]
  simp only [optK_s, asBool_v]
  rw [br_yesD (by omega)]
  simp only [bt_bs, List.getElem?_cons_zero, Option.getD_some]
  have e45 : (((a.toNat : Int)) == 45) = false := by simp; omega
  have e43 : (((a.toNat : Int)) == 43) = false := by simp; omega
  rw [br_yesD (by omega), e45, br_f, br_yesD (by omega), e43]
  simp only [optK_s, asBool_v, br_f, bytesRows_bs]
  rw [lOf_pos (i_at ⟨a :: t, rfl, hd, by simp, h18, by omega, by simp; omega, by omega, by simp⟩)]
  simp only [optK_s, out_at, Oi_strconv_Atoi_0.k, bsOf_map, bs_size, bt_bs, List.getElem?_cons_zero, Option.getD_some]
  rw [br_yesD (by omega), e45, br_f]
  rfl
def e_iAtoi : List AV → Option AV
  | [.v (.string s)] => br (s.data.toList.all isDig && decide (1 ≤ s.data.toList.length) && decide (s.data.toList.length ≤ 18)) (some (.tup [iv (numGo s.data.toList 0), .v .nilIface])) none
  | _ => none
theorem e_iAtoi_ok (xs : List AV) (v : AV) (h : e_iAtoi xs = some v) : PureCall X f_i_strconv_Atoi xs v := by
  unfold e_iAtoi at h
  split at h
  · rename_i s
    obtain ⟨h1, h2⟩ := br_yes h
    cases h2
    obtain ⟨l, rfl⟩ := exists_bs s
    simp only [bs_list, Bool.and_eq_true, decide_eq_true_eq] at h1
    rw [bs_list]
    exact pci_strconv_Atoi ok_nil (l_at _) (t_iAtoi _ l h1.1.1 h1.1.2 h1.2)
  · cases h
def tbA1 : Tab := [(f_i_strconv_Atoi, e_iAtoi)]
theorem tbA1_ok : TabOk X tbA1 := tab_cons e_iAtoi_ok tab_nil
theorem e_Atoi_ok (xs : List AV) (v : AV) (h : e_iAtoi xs = some v) : PureCall X f_strconv_Atoi xs v := by
  have h' := h
  unfold e_iAtoi at h
  split at h
  · rename_i s
    obtain ⟨h1, h2⟩ := br_yes h
    cases h2
    exact pcstrconv_Atoi (tab_ok _ tbA1_ok) (by
      unfold Rstrconv_Atoi
      rw [show tabK tbA1 f_i_strconv_Atoi [sv s] = some (.tup [iv (numGo s.data.toList 0), .v .nilIface]) from h']
      rfl)
  · cases h
end Go.Proofs.YtmiffikcnkgcpaaDoor
