import Derived.Test.YtmiffikcnkgcpaaDoorStrB
import Derived.Test.YtmiffikcnkgcpaaDoorToldEF
set_option linter.unusedVariables false
set_option linter.unusedSimpArgs false
set_option maxRecDepth 100000
namespace Go.Proofs.YtmiffikcnkgcpaaDoor
open Go Go.Ab

/-- Two letters that differ in their case alone, or the same bytes. -/
def foldB (x y : UInt8) : Bool := x == y || (if y.toNat < x.toNat then (decide (65 ≤ y.toNat) && decide (y.toNat ≤ 90) && x.toNat == y.toNat + 32) else (decide (65 ≤ x.toNat) && decide (x.toNat ≤ 90) && y.toNat == x.toNat + 32))
def asc (b : UInt8) : Bool := decide (b.toNat < 128)

theorem or_small (x y : UInt8) (hx : x.toNat < 128) (hy : y.toNat < 128) : decide (w8 (((BitVec.ofInt 8 (x.toNat : Int) ||| BitVec.ofInt 8 (y.toNat : Int)).toNat : Nat) : Int) ≥ 128) = false := by
  have h1 : (BitVec.ofInt 8 (x.toNat : Int)).toNat = x.toNat := by
    rw [BitVec.toNat_ofInt]; omega
  have h2 : (BitVec.ofInt 8 (y.toNat : Int)).toNat = y.toNat := by
    rw [BitVec.toNat_ofInt]; omega
  have h3 : (BitVec.ofInt 8 (x.toNat : Int) ||| BitVec.ofInt 8 (y.toNat : Int)).toNat < 2 ^ 7 := by
    rw [BitVec.toNat_or, h1, h2]
    exact Nat.or_lt_two_pow (by omega) (by omega)
  rw [w8_id (by omega) (by omega)]
  exact decide_eq_false (by omega)

def badAt (a b : List UInt8) : Option Nat := (a.zip b).findIdx? fun p => !foldB p.1 p.2
noncomputable def inv_ef : Sstrings_EqualFold_0 → Bool
  | .s0 s t i n => propB (s.data.toList.all asc = true ∧ t.data.toList.all asc = true ∧ s.size ≤ 1000000000 ∧ t.size ≤ 1000000000 ∧ 0 ≤ i ∧ i ≤ n ∧ n = min (s.size : Int) (t.size : Int))
theorem i_ef {s t : ByteArray} {i n : Int} (h : s.data.toList.all asc = true ∧ t.data.toList.all asc = true ∧ s.size ≤ 1000000000 ∧ t.size ≤ 1000000000 ∧ 0 ≤ i ∧ i ≤ n ∧ n = min (s.size : Int) (t.size : Int)) : inv_ef (.s0 s t i n) = true := propB_of h
def out_ef : Sstrings_EqualFold_0 → Ostrings_EqualFold_0
  | .s0 s t i n => match badAt (s.data.toList.drop i.toNat) (t.data.toList.drop i.toNat) with
    | some j => .x1 s t false (i + j)
    | none => .x2 s t n

theorem badAt_cons (x y : UInt8) (a b : List UInt8) : badAt (x :: a) (y :: b) = if foldB x y = true then (badAt a b).map (· + 1) else some 0 := by
  unfold badAt
  rw [List.zip_cons_cons, List.findIdx?_cons]
  cases foldB x y <;> simp

theorem l_ef (K : PureK) : ∀ s o, lOf inv_ef out_ef s = some o → ∃ k, fuelRec (Rstrings_EqualFold_0 K some) k s = some o :=
  fuel_of inv_ef out_ef (fun | .s0 s t i n => (n - i).toNat) (by
    rintro ⟨s, t, i, n⟩ rec hi hrec
    obtain ⟨ha, hb, hsa, hsb, h0, hin, rfl⟩ := of_propB hi
    obtain ⟨a, rfl⟩ := exists_bs s
    obtain ⟨b, rfl⟩ := exists_bs t
    rw [bs_list] at ha hb
    rw [bs_size] at hsa hsb
    simp only [Rstrings_EqualFold_0, bs_size, bt_bs] at hin ⊢
    by_cases h : i < min (a.length : Int) (b.length : Int)
    · have hla : i.toNat < a.length := by omega
      have hlb : i.toNat < b.length := by omega
      have hx : asc a[i.toNat] = true := List.all_eq_true.1 ha _ (List.getElem_mem hla)
      have hy : asc b[i.toNat] = true := List.all_eq_true.1 hb _ (List.getElem_mem hlb)
      simp only [asc, decide_eq_true_eq] at hx hy
      rw [br_yesD h, br_yesD h0, br_yesD (by omega), br_yesD h0, br_yesD (by omega), List.getElem?_eq_getElem hla, List.getElem?_eq_getElem hlb]
      simp only [Option.getD_some]
      rw [br_neg (or_small _ _ hx hy)]
      have hda : a.drop i.toNat = a[i.toNat] :: a.drop (i + 1).toNat := by rw [show (i + 1).toNat = i.toNat + 1 by omega]; exact List.drop_eq_getElem_cons hla
      have hdb : b.drop i.toNat = b[i.toNat] :: b.drop (i + 1).toNat := by rw [show (i + 1).toNat = i.toNat + 1 by omega]; exact List.drop_eq_getElem_cons hlb
      have hgo : foldB a[i.toNat] b[i.toNat] = true → rec (.s0 (bs a) (bs b) (w64 (i + 1)) (min (a.length : Int) (b.length : Int))) = some (out_ef (.s0 (bs a) (bs b) i (min (a.length : Int) (b.length : Int)))) := by
        intro hf
        rw [w64_id (n := i + 1) (by omega) (by omega)]
        rw [hrec _ (i_ef ⟨by rw [bs_list]; exact ha, by rw [bs_list]; exact hb, by rw [bs_size]; exact hsa, by rw [bs_size]; exact hsb, by omega, by omega, by rw [bs_size, bs_size]⟩) (by show (min (a.length : Int) (b.length : Int) - (i + 1)).toNat < (min (a.length : Int) (b.length : Int) - i).toNat; omega)]
        simp only [out_ef, bs_list]
        rw [hda, hdb, badAt_cons, if_pos hf]
        cases badAt (a.drop (i + 1).toNat) (b.drop (i + 1).toNat) with
        | none => rfl
        | some j => simp only [Option.map_some]; congr 2; omega
      have hst : foldB a[i.toNat] b[i.toNat] = false → some (Ostrings_EqualFold_0.x1 (bs a) (bs b) false i) = some (out_ef (.s0 (bs a) (bs b) i (min (a.length : Int) (b.length : Int)))) := by
        intro hf
        simp only [out_ef, bs_list]
        rw [hda, hdb, badAt_cons, if_neg (by rw [hf]; simp)]
        simp
      generalize a[i.toNat] = x at *
      generalize b[i.toNat] = y at *
      have hxy : (((y.toNat : Int)) == (x.toNat : Int)) = (x == y) := by
        rw [Bool.eq_iff_iff, beq_iff_eq, beq_iff_eq]
        constructor
        · intro h; exact (UInt8.toNat_inj.1 (by omega))
        · rintro rfl; rfl
      rw [hxy]
      cases he : (x == y) with
      | true => rw [br_t]; exact hgo (by unfold foldB; rw [he]; rfl)
      | false =>
        rw [br_f]
        have hne : x.toNat ≠ y.toNat := fun h => by
          have := UInt8.toNat_inj.1 h
          subst this
          simp at he
        by_cases hlt : y.toNat < x.toNat
        · rw [br_yesD (by omega)]
          by_cases c1 : 65 ≤ y.toNat
          · by_cases c2 : y.toNat ≤ 90
            · rw [br_yesD (by omega), br_yesD (by omega), w8_id (n := (y.toNat : Int) + 97) (by omega) (by omega), w8_id (n := (y.toNat : Int) + 97 - 65) (by omega) (by omega)]
              simp only [optK_s, asBool_v]
              by_cases c3 : x.toNat = y.toNat + 32
              · rw [br_pos (by simp; omega)]
                exact hgo (by unfold foldB; rw [he, if_pos hlt]; simp [c1, c2, c3])
              · rw [br_neg (by simp; omega)]
                exact hst (by unfold foldB; rw [he, if_pos hlt]; simp [c3])
            · rw [br_yesD (by omega), br_noD (by omega)]
              exact hst (by unfold foldB; rw [he, if_pos hlt]; simp [c2])
          · rw [br_noD (by omega)]
            exact hst (by unfold foldB; rw [he, if_pos hlt]; simp [c1])
        · rw [br_noD (by omega)]
          by_cases c1 : 65 ≤ x.toNat
          · by_cases c2 : x.toNat ≤ 90
            · rw [br_yesD (by omega), br_yesD (by omega), w8_id (n := (x.toNat : Int) + 97) (by omega) (by omega), w8_id (n := (x.toNat : Int) + 97 - 65) (by omega) (by omega)]
              simp only [optK_s, asBool_v]
              by_cases c3 : y.toNat = x.toNat + 32
              · rw [br_pos (by simp; omega)]
                exact hgo (by unfold foldB; rw [he, if_neg hlt]; simp [c1, c2, c3])
              · rw [br_neg (by simp; omega)]
                exact hst (by unfold foldB; rw [he, if_neg hlt]; simp [c3])
            · rw [br_yesD (by omega), br_noD (by omega)]
              exact hst (by unfold foldB; rw [he, if_neg hlt]; simp [c2])
          · rw [br_noD (by omega)]
            exact hst (by unfold foldB; rw [he, if_neg hlt]; simp [c1])
    · rw [br_noD h]
      have hz : a.drop i.toNat = [] ∨ b.drop i.toNat = [] := by
        rcases Nat.le_total a.length b.length with hl | hl
        · exact .inl (List.drop_of_length_le (by omega))
        · exact .inr (List.drop_of_length_le (by omega))
      have hb0 : badAt (a.drop i.toNat) (b.drop i.toNat) = none := by
        rcases hz with hz | hz <;> rw [hz] <;> simp [badAt]
      simp only [out_ef, bs_list, hb0]
      have : i = min (a.length : Int) (b.length : Int) := by omega
      rw [← this])

def eqFold (a b : List UInt8) : Bool := decide (a.length = b.length) && (a.zip b).all fun p => foldB p.1 p.2

theorem t_EqualFold (K : PureK) (l1 : Sstrings_EqualFold_1 → Option Ostrings_EqualFold_1) (a b : List UInt8) (ha : a.all asc = true) (hb : b.all asc = true) (hla : a.length ≤ 1000000000) (hlb : b.length ≤ 1000000000)
    (hab : a.length = b.length) : Rstrings_EqualFold K (lOf inv_ef out_ef) l1 (bs a) (bs b) = some (bv (eqFold a b)) := by
  unfold Rstrings_EqualFold
  have hif : (if ((bs b).size : Int) < ((bs a).size : Int) then ((bs b).size : Int) else ((bs a).size : Int)) = min ((bs a).size : Int) ((bs b).size : Int) := by
    split <;> omega
  simp only [hif]
  rw [lOf_pos (i_ef ⟨by rw [bs_list]; exact ha, by rw [bs_list]; exact hb, by rw [bs_size]; exact hla, by rw [bs_size]; exact hlb, by omega, by omega, rfl⟩)]
  simp only [optK_s, out_ef, bs_list]
  rw [show (0 : Int).toNat = 0 from rfl, List.drop_zero, List.drop_zero]
  unfold eqFold
  cases hbad : badAt a b with
  | none =>
    simp only [Ostrings_EqualFold_0.k, bs_size]
    have : (a.zip b).all (fun p => foldB p.1 p.2) = true := by
      rw [List.all_eq_true]
      intro p hp
      have := (List.findIdx?_eq_none_iff.1 hbad) p hp
      simpa using this
    rw [this, Bool.and_true]
    refine congrArg (fun b => some (bv b)) ?_
    rw [Bool.eq_iff_iff, beq_iff_eq, decide_eq_true_eq]
    omega
  | some j =>
    simp only [Ostrings_EqualFold_0.k]
    have : (a.zip b).all (fun p => foldB p.1 p.2) = false := by
      obtain ⟨hj, hp, _⟩ := List.findIdx?_eq_some_iff_getElem.1 hbad
      rw [Bool.eq_false_iff]
      intro hall
      have := List.all_eq_true.1 hall _ (List.getElem_mem hj)
      rw [this] at hp
      cases hp
    rw [this, Bool.and_false]
def e_EqualFold : List AV → Option AV
  | [.v (.string s), .v (.string t)] => br (s.data.toList.all asc && t.data.toList.all asc && decide (s.data.toList.length ≤ 1000000000) && decide (s.data.toList.length = t.data.toList.length)) (some (bv (eqFold s.data.toList t.data.toList))) none
  | _ => none
theorem e_EqualFold_ok (xs : List AV) (v : AV) (h : e_EqualFold xs = some v) : PureCall X f_strings_EqualFold xs v := by
  unfold e_EqualFold at h
  split at h
  · rename_i s t
    obtain ⟨h1, h2⟩ := br_yes h
    cases h2
    obtain ⟨a, rfl⟩ := exists_bs s
    obtain ⟨b, rfl⟩ := exists_bs t
    simp only [bs_list, Bool.and_eq_true, decide_eq_true_eq] at h1 ⊢
    exact pcstrings_EqualFold ok_nil (l_ef _) (lstrings_EqualFold_2 := fun _ => none) (fun s o h => by cases h) (lstrings_EqualFold_1 := fun _ => none) (fun s o h => by cases h) (t_EqualFold _ _ a b h1.1.1.1 h1.1.1.2 h1.1.2 (by omega) h1.2)
  · cases h
end Go.Proofs.YtmiffikcnkgcpaaDoor
