import Derived.Test.YtphbfkncimifoaaDoorToldK1
import Derived.Test.YtphbfkncimifoaaDoorAbStr
set_option linter.unusedVariables false
set_option linter.unusedSimpArgs false
set_option maxRecDepth 100000
namespace Go.Proofs.YtphbfkncimifoaaDoor
open Go Go.Ab



def isDig (b : UInt8) : Bool := decide (48 ≤ b.toNat) && decide (b.toNat ≤ 57)
def setOf (p : UInt8 → Bool) : List AV := (List.range 256).map fun i => bv (p (UInt8.ofNat i))
theorem setOf_get (p : UInt8 → Bool) (b : UInt8) : (setOf p)[0 + ((b.toNat : Int)).toNat * 1]? = some (bv (p b)) := by
  have hb := b.toNat_lt
  rw [show 0 + ((b.toNat : Int)).toNat * 1 = b.toNat by omega]
  unfold setOf
  rw [List.getElem?_map, List.getElem?_range hb]
  simp
theorem setOf_length (p : UInt8 → Bool) : (setOf p).length = 256 := by simp [setOf]

def trimR (p : UInt8 → Bool) (l : List UInt8) : List UInt8 := (l.reverse.dropWhile p).reverse
theorem trimR_nil (p : UInt8 → Bool) : trimR p [] = [] := rfl
theorem trimR_app (p : UInt8 → Bool) (l : List UInt8) (a : UInt8) : trimR p (l ++ [a]) = if p a = true then trimR p l else l ++ [a] := by
  unfold trimR
  simp only [List.reverse_append, List.reverse_cons, List.reverse_nil, List.nil_append, List.singleton_append, List.dropWhile_cons]
  split <;> simp
def trimB (p : UInt8 → Bool) (l : List UInt8) : List UInt8 := (trimR p l).dropWhile p
theorem trimB_nil (p : UInt8 → Bool) (l : List UInt8) : (trimB p l == []) = l.all p := by
  have h1 : ∀ l : List UInt8, l.dropWhile p = [] ↔ ∀ x ∈ l, p x = true := by
    intro l
    induction l with
    | nil => simp
    | cons a l ih =>
      rw [List.dropWhile_cons]
      split
      · rename_i h; rw [ih]; simp [h]
      · rename_i h; simp [h]
  rw [Bool.eq_iff_iff, beq_iff_eq, List.all_eq_true]
  unfold trimB trimR
  rw [h1]
  constructor
  · intro h
    -- what is left at the right has but such bytes: so nothing is left
    have h2 : l.reverse.dropWhile p = [] := by
      cases hd : l.reverse.dropWhile p with
      | nil => rfl
      | cons a t =>
        have ha : p a = false := by
          have := List.head_dropWhile_not p (l := l.reverse) (by rw [hd]; simp)
          simpa [hd] using this
        have := h a (by rw [hd]; simp)
        rw [ha] at this; cases this
    intro x hx
    exact (h1 _).1 h2 x (by simpa using hx)
  · intro h x hx
    have : x ∈ l.reverse := (List.dropWhile_sublist p).subset (by simpa using hx)
    exact h x (by simpa using this)

/-- The loops of strings.Trim at a set. -/
noncomputable def inv_tr (p : UInt8 → Bool) : Sstrings_Trim_strings_trimRightASCII_0 → Bool
  | .s0 s row => propB (row = setOf p ∧ s.size ≤ 70368744177664)
theorem i_tr {p : UInt8 → Bool} {s : ByteArray} {row : List AV} (h : row = setOf p ∧ s.size ≤ 70368744177664) : inv_tr p (.s0 s row) = true := propB_of h
def out_tr (p : UInt8 → Bool) : Sstrings_Trim_strings_trimRightASCII_0 → Ostrings_Trim_strings_trimRightASCII_0
  | .s0 s row => .x0 (bs (trimR p s.data.toList)) row
theorem l_tr (p : UInt8 → Bool) (K : PureK) : ∀ s o, lOf (inv_tr p) (out_tr p) s = some o → ∃ k, fuelRec (Rstrings_Trim_strings_trimRightASCII_0 K some) k s = some o :=
  fuel_of (inv_tr p) (out_tr p) (fun | .s0 s row => s.size) (by
    rintro ⟨s, row⟩ rec hi hrec
    obtain ⟨rfl, hs⟩ := of_propB hi
    obtain ⟨l, rfl⟩ := exists_bs s
    rw [bs_size] at hs
    simp only [Rstrings_Trim_strings_trimRightASCII_0, bs_size, bt_bs]
    rcases List.eq_nil_or_concat l with rfl | ⟨l, a, rfl⟩
    · rfl
    · have hlen : (l ++ [a]).length = l.length + 1 := by simp
      rw [List.concat_eq_append] at *
      rw [hlen] at hs ⊢
      rw [w64_id (n := ((l.length + 1 : Nat) : Int) - 1) (by omega) (by omega)]
      have hto : (((l.length + 1 : Nat) : Int) - 1).toNat = l.length := by omega
      rw [hto]
      have hget : (l ++ [a])[l.length]?.getD 0 = a := by simp
      have ha := a.toNat_lt
      rw [hget, br_yesD (by omega), br_yesD (by omega), br_yesD (by omega), br_yesD (by omega), setOf_get]
      simp only [optK_s, asBool_v]
      simp only [out_tr, bs_list, trimR_app]
      cases hp : p a with
      | false => rfl
      | true =>
        rw [Bool.not_true, br_f, br_yesD (by omega), br_yesD (by omega), cut_to, hto, List.take_left' rfl]
        rw [hrec _ (i_tr ⟨rfl, by rw [bs_size]; omega⟩) (by show (bs l).size < (bs (l ++ [a])).size; rw [bs_size, bs_size, hlen]; omega)]
        simp [out_tr, bs_list])

noncomputable def inv_tl (p : UInt8 → Bool) : Sstrings_Trim_strings_trimLeftASCII_0 → Bool
  | .s0 s row => propB (row = setOf p)
theorem i_tl {p : UInt8 → Bool} {s : ByteArray} {row : List AV} (h : row = setOf p) : inv_tl p (.s0 s row) = true := propB_of h
def out_tl (p : UInt8 → Bool) : Sstrings_Trim_strings_trimLeftASCII_0 → Ostrings_Trim_strings_trimLeftASCII_0
  | .s0 s row => .x0 (bs (s.data.toList.dropWhile p)) row
theorem l_tl (p : UInt8 → Bool) (K : PureK) : ∀ s o, lOf (inv_tl p) (out_tl p) s = some o → ∃ k, fuelRec (Rstrings_Trim_strings_trimLeftASCII_0 K some) k s = some o :=
  fuel_of (inv_tl p) (out_tl p) (fun | .s0 s row => s.size) (by
    rintro ⟨s, row⟩ rec hi hrec
    obtain rfl := of_propB hi
    obtain ⟨l, rfl⟩ := exists_bs s
    simp only [Rstrings_Trim_strings_trimLeftASCII_0, bs_size, bt_bs]
    cases l with
    | nil => rfl
    | cons a l =>
      have ha := a.toNat_lt
      simp only [List.length_cons, List.getElem?_cons_zero, Option.getD_some]
      rw [br_yesD (by omega), br_yesD (by omega), br_yesD (by omega), setOf_get]
      simp only [optK_s, asBool_v, out_tl, bs_list, List.dropWhile_cons]
      cases hp : p a with
      | false => rfl
      | true =>
        rw [Bool.not_true, br_f, br_yesD (by omega), cut_from]
        simp only [show (1 : Int).toNat = 1 from rfl, List.drop_succ_cons, List.drop_zero, if_true]
        rw [hrec _ (i_tl rfl) (by show (bs l).size < (bs (a :: l)).size; rw [bs_size, bs_size]; simp)]
        simp [out_tl, bs_list])

def digL : List UInt8 := [48, 49, 50, 51, 52, 53, 54, 55, 56, 57]
def e_set (cut : List UInt8) (p : UInt8 → Bool) : List AV → Option AV
  | [.v (.string s)] => br (s.data.toList == cut) (some (.tup [.agg (setOf p), bv true])) none
  | _ => none
theorem pc_set_dig : PureCall X f_strings_makeASCIISet [sv (bs digL)] (.tup [.agg (setOf isDig), bv true]) := top_ok soundX (ev_ok soundX ovr_ok 3) 300 _ _ _ (by kernel_rfl)
theorem e_set_dig_ok (xs : List AV) (v : AV) (h : e_set digL isDig xs = some v) : PureCall X f_strings_makeASCIISet xs v := by
  unfold e_set at h
  split at h
  · rename_i s
    obtain ⟨h1, h2⟩ := br_yes h
    cases h2
    have : s = bs digL := by rw [← bs_eta s, beq_iff_eq.1 h1]
    subst this
    exact pc_set_dig
  · cases h
def tbT : Tab := [(f_strings_makeASCIISet, e_set digL isDig)]
theorem tbT_ok : TabOk X tbT := tab_cons e_set_dig_ok tab_nil

theorem fits_set (p : UInt8 → Bool) : refFree (AV.tup [AV.agg (setOf p), bv true]) = true := by
  have : ∀ l : List Nat, refFrees (l.map fun i => bv (p (UInt8.ofNat i))) = true := by
    intro l; induction l with
    | nil => rfl
    | cons a l ih => simp only [List.map_cons, refFrees, Bool.and_eq_true]; exact ⟨rfl, ih⟩
  simp only [refFree, refFrees, Bool.and_true]
  exact this _

theorem t_Trim_dig (l : List UInt8) (hl : l.length ≤ 1000000000) : Rstrings_Trim (tabK tbT) (lOf (inv_tr isDig) (out_tr isDig)) (lOf (inv_tl isDig) (out_tl isDig)) (bs l) (bs digL) = some (sv (bs (trimB isDig l))) := by
  unfold Rstrings_Trim
  rw [emp, strEq_bs, strEq_bs]
  cases l with
  | nil => rfl
  | cons a t =>
    have h1 : ((a :: t : List UInt8) == []) = false := rfl
    rw [h1, show (digL == []) = false from rfl]
    simp only [br_f, br_t, optK_s, asBool_v, bs_size]
    rw [show ((((digL.length : Nat) : Int)) == 1) = false from rfl]
    simp only [br_f, optK_s, asBool_v]
    rw [show tabK tbT f_strings_makeASCIISet [sv (bs digL)] = br ((bs digL).data.toList == digL) (some (.tup [.agg (setOf isDig), bv true])) none from rfl, bs_list, br_pos (by simp)]
    simp only [optK_s]
    rw [asTup_v _ 2 rfl]
    simp only [List.getD_cons_zero, List.getD_cons_succ, asBig, setOf_length, asBool_v]
    rw [br_pos rfl, br_pos (fits_set isDig)]
    refine (br_pos (by kernel_rfl)).trans ?_
    rw [lOf_pos (i_tr ⟨rfl, by rw [bs_size]; omega⟩)]
    simp only [optK_s, out_tr, Ostrings_Trim_strings_trimRightASCII_0.k, bs_list]
    rw [lOf_pos (i_tl rfl)]
    simp only [optK_s, out_tl, Ostrings_Trim_strings_trimLeftASCII_0.k, bs_list]
    rfl
def e_Trim : List AV → Option AV
  | [.v (.string s), .v (.string c)] => br (c.data.toList == digL && decide (s.size ≤ 1000000000)) (some (sv (bs (trimB isDig s.data.toList)))) none
  | _ => none
theorem e_Trim_ok (xs : List AV) (v : AV) (h : e_Trim xs = some v) : PureCall X f_strings_Trim xs v := by
  unfold e_Trim at h
  split at h
  · rename_i s c
    obtain ⟨h1, h2⟩ := br_yes h
    cases h2
    simp only [Bool.and_eq_true, beq_iff_eq, decide_eq_true_eq] at h1
    obtain ⟨l, rfl⟩ := exists_bs s
    have : c = bs digL := by rw [← bs_eta c, h1.1]
    subst this
    rw [bs_size] at h1
    rw [bs_list]
    exact pcstrings_Trim (tab_ok _ tbT_ok) (l_tr isDig _) (l_tl isDig _) (t_Trim_dig l h1.2)
  · cases h

end Go.Proofs.YtphbfkncimifoaaDoor
