/- Texts: splitting, trimming, numbers, folding. -/
import Derived.Test.YtmiffikcnkgcpaaGreatDoorToldM1
import Derived.Test.YtmiffikcnkgcpaaGreatDoorAbStr
set_option linter.unusedVariables false
set_option linter.unusedSimpArgs false
set_option maxRecDepth 100000
namespace Go.Proofs.YtmiffikcnkgcpaaGreatDoor
open Go Go.Ab


def tbS0 : Tab := [(f_i_bytealg_IndexByteString, xIndexByteString)]
theorem tbS0_ok : TabOk X tbS0 := tab_cons (fun xs v h => ovr_ok _ _ rfl xs v h) tab_nil



theorem t_IndexByte (l : List UInt8) (c : UInt8) : Ri_stringslite_IndexByte (tabK tbS0) (bs l) (c.toNat : Int) = some (iv (firstIdx (bs l) c)) := by
  unfold Ri_stringslite_IndexByte
  rw [show tabK tbS0 f_i_bytealg_IndexByteString [sv (bs l), uv (c.toNat : Int)] = some (iv (firstIdx (bs l) ((c.toNat : Int)).toNat.toUInt8)) from rfl, toU8]
  simp only [optK_s, asInt_v]
def e_IndexByte : List AV → Option AV
  | [.v (.string s), .v (.int .u8 c)] => br (decide (0 ≤ c ∧ c < 256)) (some (iv (firstIdx s c.toNat.toUInt8))) none
  | _ => none
theorem e_IndexByte_ok (xs : List AV) (v : AV) (h : e_IndexByte xs = some v) : PureCall X f_i_stringslite_IndexByte xs v := by
  unfold e_IndexByte at h
  split at h
  · rename_i s c
    obtain ⟨h1, h2⟩ := br_yes h
    cases h2
    have h1 := of_decide_eq_true h1
    obtain ⟨l, rfl⟩ := exists_bs s
    have hc : c = ((c.toNat.toUInt8).toNat : Int) := by
      have : c.toNat < 256 := by omega
      rw [Nat.toUInt8, UInt8.toNat_ofNat']
      omega
    have := t_IndexByte l c.toNat.toUInt8
    rw [← hc] at this
    exact pci_stringslite_IndexByte (tab_ok _ tbS0_ok) this
  · cases h
def tbS1 : Tab := (f_i_stringslite_IndexByte, e_IndexByte) :: tbS0
theorem tbS1_ok : TabOk X tbS1 := tab_cons e_IndexByte_ok tbS0_ok

theorem k_IndexByte (l : List UInt8) (c : UInt8) : tabK tbS1 f_i_stringslite_IndexByte [sv (bs l), uv (c.toNat : Int)] = some (iv (firstIdx (bs l) c)) := by
  have hc : 0 ≤ (c.toNat : Int) ∧ (c.toNat : Int) < 256 := ⟨by omega, by have := c.toNat_lt; omega⟩
  show br (decide (0 ≤ (c.toNat : Int) ∧ (c.toNat : Int) < 256)) (some (iv (firstIdx (bs l) ((c.toNat : Int)).toNat.toUInt8))) none = _
  rw [br_yesD hc, toU8]
theorem t_Index1 (l : List UInt8) (c : UInt8) : Ri_stringslite_Index (tabK tbS1) (bs l) (bs [c]) = some (iv (firstIdx (bs l) c)) := by
  unfold Ri_stringslite_Index
  rw [show (bs [c]).size = 1 from rfl, strEq_bs, bt_bs]
  simp only [List.getElem?_cons_zero, Option.getD_some]
  rw [k_IndexByte]
  cases h : ([c] == l) with
  | true =>
    have : l = [c] := (beq_iff_eq.1 h).symm
    subst this
    have : firstIdx (bs ([] ++ c :: [])) c = ([] : List UInt8).length := firstIdx_at (by simp)
    rw [show ([] : List UInt8) ++ [c] = [c] from rfl] at this
    rw [this]; rfl
  | false => simp only [optK_s, asInt_v, asBool_v]; rfl
def e_Index : List AV → Option AV
  | [.v (.string s), .v (.string p)] => match p.data.toList with
    | [c] => some (iv (firstIdx s c))
    | _ => none
  | _ => none
theorem e_sIndex_ok (xs : List AV) (v : AV) (h : e_Index xs = some v) : PureCall X f_i_stringslite_Index xs v := by
  unfold e_Index at h
  split at h
  · rename_i s p
    split at h
    · rename_i c hc
      cases h
      obtain ⟨l, rfl⟩ := exists_bs s
      have hp : p = bs [c] := by rw [← hc, bs_eta]
      subst hp
      exact pci_stringslite_Index (tab_ok _ tbS1_ok) (t_Index1 l c)
    · cases h
  · cases h
def tbS2 : Tab := (f_i_stringslite_Index, e_Index) :: tbS1
theorem tbS2_ok : TabOk X tbS2 := tab_cons e_sIndex_ok tbS1_ok
theorem t_Index (l : List UInt8) (c : UInt8) : Rstrings_Index (tabK tbS2) (bs l) (bs [c]) = some (iv (firstIdx (bs l) c)) := by
  unfold Rstrings_Index
  rw [show tabK tbS2 f_i_stringslite_Index [sv (bs l), sv (bs [c])] = some (iv (firstIdx (bs l) c)) from rfl]
  simp only [optK_s, asInt_v]
theorem e_Index_ok (xs : List AV) (v : AV) (h : e_Index xs = some v) : PureCall X f_strings_Index xs v := by
  unfold e_Index at h
  split at h
  · rename_i s p
    split at h
    · rename_i c hc
      cases h
      obtain ⟨l, rfl⟩ := exists_bs s
      have hp : p = bs [c] := by rw [← hc, bs_eta]
      subst hp
      exact pcstrings_Index (tab_ok _ tbS2_ok) (t_Index l c)
    · cases h
  · cases h
def tbS3 : Tab := (f_strings_Index, e_Index) :: tbS2
theorem tbS3_ok : TabOk X tbS3 := tab_cons e_Index_ok tbS2_ok



def tbS3c : Tab := (f_i_bytealg_CountString, xCountString) :: tbS3
theorem tbS3c_ok : TabOk X tbS3c := tab_cons (fun xs v h => ovr_ok _ _ rfl xs v h) tbS3_ok
theorem t_Count (l : List UInt8) (c : UInt8) (lp : Sstrings_Count_0 → Option Ostrings_Count_0) : Rstrings_Count (tabK tbS3c) lp (bs l) (bs [c]) = some (iv (l.count c : Nat)) := by
  unfold Rstrings_Count
  rw [show (bs [c]).size = 1 from rfl, bt_bs]
  simp only [List.getElem?_cons_zero, Option.getD_some]
  rw [show tabK tbS3c f_i_bytealg_CountString [sv (bs l), uv (c.toNat : Int)] = some (iv ((bs l).foldl (fun (n : Int) x => if x == ((c.toNat : Int)).toNat.toUInt8 then n + 1 else n) ((0 : Nat) : Int))) from rfl, toU8, count_bs]
  simp only [optK_s, asInt_v]
  rfl
def e_Count : List AV → Option AV
  | [.v (.string s), .v (.string p)] => match p.data.toList with
    | [c] => some (iv (s.data.toList.count c : Nat))
    | _ => none
  | _ => none
theorem e_Count_ok (xs : List AV) (v : AV) (h : e_Count xs = some v) : PureCall X f_strings_Count xs v := by
  unfold e_Count at h
  split at h
  · rename_i s p
    split at h
    · rename_i c hc
      cases h
      obtain ⟨l, rfl⟩ := exists_bs s
      have hp : p = bs [c] := by rw [← hc, bs_eta]
      subst hp
      rw [bs_list]
      exact pcstrings_Count (tab_ok _ tbS3c_ok) (lstrings_Count_0 := fun _ => none) (fun s o h => by cases h) (t_Count l c _)
    · cases h
  · cases h
def tbS4 : Tab := (f_strings_Count, e_Count) :: tbS3c
theorem tbS4_ok : TabOk X tbS4 := tab_cons e_Count_ok tbS3c_ok

def svs (ps : List (List UInt8)) : List AV := ps.map fun p => sv (bs p)

/-- The loop of strings.genSplit at a separator of one byte. -/
noncomputable def inv_gs (c : UInt8) : Sstrings_genSplit_0 → Bool
  | .s0 s sep save n i obj => propB (sep = bs [c] ∧ save = 0 ∧ 0 ≤ i ∧ s.size ≤ 70368744177664 ∧ i + (s.data.toList.count c : Nat) = n ∧ n < 70368744177664 ∧ (obj.length : Int) = n + 1)
theorem i_gs {c : UInt8} {s sep : ByteArray} {save n i : Int} {obj : List AV} (h : sep = bs [c] ∧ save = 0 ∧ 0 ≤ i ∧ s.size ≤ 70368744177664 ∧ i + (s.data.toList.count c : Nat) = n ∧ n < 70368744177664 ∧ (obj.length : Int) = n + 1) : inv_gs c (.s0 s sep save n i obj) = true := propB_of h
def out_gs (c : UInt8) : Sstrings_genSplit_0 → Ostrings_genSplit_0
  | .s0 s sep save n i obj => .x0 (bs ((splitL c s.data.toList).getLast (splitL_ne c _))) n (obj.take i.toNat ++ svs (splitL c s.data.toList).dropLast ++ obj.drop n.toNat)

theorem l_gs (c : UInt8) : ∀ s o, lOf (inv_gs c) (out_gs c) s = some o → ∃ k, fuelRec (Rstrings_genSplit_0 (tabK tbS4) some) k s = some o :=
  fuel_of (inv_gs c) (out_gs c) (fun | .s0 s sep save n i obj => (n - i).toNat) (by
    rintro ⟨s, sep, save, n, i, obj⟩ rec hi hrec
    obtain ⟨rfl, rfl, h0, hs, hc, hn, ho⟩ := of_propB hi
    obtain ⟨l, rfl⟩ := exists_bs s
    rw [bs_list] at hc
    rw [bs_size] at hs
    simp only [Rstrings_genSplit_0]
    by_cases h : i < n
    · have hm : c ∈ l := List.count_pos_iff.1 (by omega)
      obtain ⟨a, b, rfl, ha⟩ := mem_split hm
      rw [br_yesD h, show tabK tbS4 f_strings_Index [sv (bs (a ++ c :: b)), sv (bs [c])] = some (iv (firstIdx (bs (a ++ c :: b)) c)) from rfl, firstIdx_at ha]
      simp only [optK_s, asInt_v]
      have hca : List.count c a = 0 := List.count_eq_zero.2 ha
      have hcc : List.count c (a ++ c :: b) = List.count c b + 1 := by rw [List.count_append, hca]; simp
      have hl : (a ++ c :: b).length = a.length + b.length + 1 := by simp; omega
      rw [hl] at hs
      rw [hcc] at hc
      rw [bs_size, hl, show (bs [c]).size = 1 from rfl]
      rw [w64_id (n := (a.length : Int) + 0) (by omega) (by omega), w64_id (n := (a.length : Int) + ((1 : Nat) : Int)) (by omega) (by omega), w64_id (n := i + 1) (by omega) (by omega)]
      rw [br_noD (by omega), br_yesD (by omega), br_yesD (by omega), br_yesD h0, br_yesD (by omega), br_yesD (by omega), br_yesD (by omega)]
      rw [cut_from, cut_to]
      have e1 : (a ++ c :: b).drop ((a.length : Int) + ((1 : Nat) : Int)).toNat = b := by
        rw [show ((a.length : Int) + ((1 : Nat) : Int)).toNat = a.length + 1 by omega]
        simp
      have e2 : (a ++ c :: b).take ((a.length : Int) + 0).toNat = a := by
        rw [show ((a.length : Int) + 0).toNat = a.length by omega]
        simp
      rw [e1, e2]
      rw [hrec _ (i_gs ⟨rfl, rfl, by omega, by rw [bs_size]; omega, by rw [bs_list]; omega, hn, by simp; omega⟩) (by show (n - (i + 1)).toNat < (n - i).toNat; omega)]
      simp only [out_gs, bs_list, splitL_at c b ha]
      have hne := splitL_ne c b
      congr 2
      · rw [List.getLast_cons hne]
      · rw [List.dropLast_cons_of_ne_nil hne]
        have hi1 : (i + 1).toNat = i.toNat + 1 := by omega
        have hil : i.toNat < obj.length := by omega
        rw [hi1, Nat.zero_add, List.drop_set_of_lt (by omega), List.take_succ_eq_append_getElem (by simpa using hil)]
        simp [svs, List.take_set_of_le]
    · have hin : i = n := by omega
      have hcz : l.count c = 0 := by omega
      have hm : c ∉ l := List.count_eq_zero.1 hcz
      rw [br_noD h]
      simp only [out_gs, bs_list, splitL_no c hm]
      subst hin
      simp [svs])

theorem t_genSplit (l : List UInt8) (c : UInt8) (hl : l.length ≤ 1000000000) : Rstrings_genSplit (tabK tbS4) (lOf (inv_gs c) (out_gs c)) (bs l) (bs [c]) 0 (-1) = some (.lst 1 false (svs (splitL c l))) := by
  unfold Rstrings_genSplit
  have hcl : l.count c ≤ l.length := List.count_le_length
  rw [emp, strEq_bs, show tabK tbS4 f_strings_Count [sv (bs l), sv (bs [c])] = some (iv ((bs l).data.toList.count c : Nat)) from rfl, bs_list]
  rw [show ((-1 : Int) == 0) = false from rfl, br_f, show ([c] == []) = false from rfl, br_f, show decide ((-1 : Int) < 0) = true from rfl, br_t]
  simp only [optK_s, asInt_v]
  have hif : (if w64 (((bs l).size : Int) + 1) < w64 ((l.count c : Nat) + 1) then w64 (((bs l).size : Int) + 1) else w64 ((l.count c : Nat) + 1)) = (l.count c : Nat) + 1 := by
    rw [bs_size, w64_id (n := (l.count c : Int) + 1) (by omega) (by omega), w64_id (n := (l.length : Int) + 1) (by omega) (by omega)]
    rw [if_neg (by omega)]
  simp only [hif]
  have hto : ((l.count c : Int) + 1).toNat = l.count c + 1 := by omega
  rw [hto, br_yesD (by omega), br_yesD (by omega)]
  rw [br_pos (by simp only [lenOk, maxBytes, Bool.and_eq_true]; constructor <;> (rw [Nat.ble_eq]; omega))]
  rw [w64_id (n := (l.count c : Int) + 1 - 1) (by omega) (by omega)]
  rw [lOf_pos (i_gs ⟨rfl, rfl, by omega, by rw [bs_size]; omega, by rw [bs_list]; omega, by omega, by simp⟩)]
  simp only [optK_s, out_gs, Ostrings_genSplit_0.k, bs_list]
  have hlen := splitL_length c l
  have hne := splitL_ne c l
  have hd : (splitL c l).dropLast.length = l.count c := by simp; omega
  have hobj : (List.take (0 : Int).toNat (List.replicate (l.count c + 1) (sv (bs []))) ++ svs (splitL c l).dropLast ++ List.drop ((l.count c : Int) + 1 - 1).toNat (List.replicate (l.count c + 1) (sv (bs [])))) =
      svs (splitL c l).dropLast ++ [sv (bs [])] := by
    rw [show ((l.count c : Int) + 1 - 1).toNat = l.count c by omega]
    simp [List.drop_replicate]
  rw [hobj]
  have hsl : (svs (splitL c l).dropLast).length = l.count c := by rw [← hd]; simp [svs]
  rw [show (l.count c : Int) + 1 - 1 = (l.count c : Nat) by omega]
  rw [w64_id (n := ((l.count c : Nat) : Int) + 1) (by omega) (by omega)]
  have hl1 : (svs (splitL c l).dropLast ++ [sv (bs [])]).length = l.count c + 1 := by rw [List.length_append, hsl]; rfl
  rw [br_yesD (by omega), br_yesD (by rw [hl1]; omega), br_yesD (by omega), br_yesD (by rw [List.length_set, hl1]; omega)]
  refine congrArg some (congrArg (AV.lst 1 false) ?_)
  rw [hto, Nat.zero_add, show ((l.count c : Nat) : Int).toNat = l.count c by omega]
  rw [List.set_append_right _ _ (by omega), hsl, Nat.sub_self]
  simp only [List.set_cons_zero]
  rw [List.take_of_length_le (by simp [hsl])]
  have := List.dropLast_concat_getLast hne
  conv => rhs; rw [← this]
  simp [svs]

def e_genSplit : List AV → Option AV
  | [.v (.string s), .v (.string p), .v (.int .i64 0), .v (.int .i64 (-1))] => match p.data.toList with
    | [c] => br (decide (s.size ≤ 1000000000)) (some (.lst 1 false (svs (splitL c s.data.toList)))) none
    | _ => none
  | _ => none
theorem e_genSplit_ok (xs : List AV) (v : AV) (h : e_genSplit xs = some v) : PureCall X f_strings_genSplit xs v := by
  unfold e_genSplit at h
  split at h
  · rename_i s p
    split at h
    · rename_i c hc
      obtain ⟨h1, h2⟩ := br_yes h
      cases h2
      have h1 := of_decide_eq_true h1
      obtain ⟨l, rfl⟩ := exists_bs s
      have hp : p = bs [c] := by rw [← hc, bs_eta]
      subst hp
      rw [bs_size] at h1
      rw [bs_list]
      exact pcstrings_genSplit (tab_ok _ tbS4_ok) (l_gs c) (t_genSplit l c h1)
    · cases h
  · cases h
def tbS5 : Tab := (f_strings_genSplit, e_genSplit) :: tbS4
theorem tbS5_ok : TabOk X tbS5 := tab_cons e_genSplit_ok tbS4_ok
theorem t_Split (l : List UInt8) (c : UInt8) (hl : l.length ≤ 1000000000) : Rstrings_Split (tabK tbS5) (bs l) (bs [c]) = some (.lst 1 false (svs (splitL c l))) := by
  unfold Rstrings_Split
  rw [show tabK tbS5 f_strings_genSplit [sv (bs l), sv (bs [c]), iv 0, iv (-1)] = br (decide ((bs l).size ≤ 1000000000)) (some (.lst 1 false (svs (splitL c (bs l).data.toList)))) none from rfl, bs_list, bs_size, br_yesD hl]
  simp only [optK_s, asLst_v]
def e_Split : List AV → Option AV
  | [.v (.string s), .v (.string p)] => match p.data.toList with
    | [c] => br (decide (s.size ≤ 1000000000)) (some (.lst 1 false (svs (splitL c s.data.toList)))) none
    | _ => none
  | _ => none
theorem e_Split_ok (xs : List AV) (v : AV) (h : e_Split xs = some v) : PureCall X f_strings_Split xs v := by
  unfold e_Split at h
  split at h
  · rename_i s p
    split at h
    · rename_i c hc
      obtain ⟨h1, h2⟩ := br_yes h
      cases h2
      have h1 := of_decide_eq_true h1
      obtain ⟨l, rfl⟩ := exists_bs s
      have hp : p = bs [c] := by rw [← hc, bs_eta]
      subst hp
      rw [bs_size] at h1
      rw [bs_list]
      exact pcstrings_Split (tab_ok _ tbS5_ok) (t_Split l c h1)
    · cases h
  · cases h




def isDig (b : UInt8) : Bool := decide (48 ≤ b.toNat) && decide (b.toNat ≤ 57)
def setOf (p : UInt8 → Bool) : List AV := (List.range 256).map fun i => bv (p (UInt8.ofNat i))
theorem setOf_get (p : UInt8 → Bool) (b : UInt8) : (setOf p)[0 + ((b.toNat : Int)).toNat * 1]? = some (bv (p b)) := by
  have hb := b.toNat_lt
  rw [show 0 + ((b.toNat : Int)).toNat * 1 = b.toNat by omega]
  unfold setOf
  rw [List.getElem?_map, List.getElem?_range hb]
  simp
theorem setOf_length (p : UInt8 → Bool) : (setOf p).length = 256 := by simp [setOf]

def trimR (p : UInt8 → Bool) (l : List UInt8) : List UInt8 := (l.reverse.dropWhile p).reverse
theorem trimR_nil (p : UInt8 → Bool) : trimR p [] = [] := rfl
theorem trimR_app (p : UInt8 → Bool) (l : List UInt8) (a : UInt8) : trimR p (l ++ [a]) = if p a = true then trimR p l else l ++ [a] := by
  unfold trimR
  simp only [List.reverse_append, List.reverse_cons, List.reverse_nil, List.nil_append, List.singleton_append, List.dropWhile_cons]
  split <;> simp
def trimB (p : UInt8 → Bool) (l : List UInt8) : List UInt8 := (trimR p l).dropWhile p
theorem trimB_nil (p : UInt8 → Bool) (l : List UInt8) : (trimB p l == []) = l.all p := by
  have h1 : ∀ l : List UInt8, l.dropWhile p = [] ↔ ∀ x ∈ l, p x = true := by
    intro l
    induction l with
    | nil => simp
    | cons a l ih =>
      rw [List.dropWhile_cons]
      split
      · rename_i h; rw [ih]; simp [h]
      · rename_i h; simp [h]
  rw [Bool.eq_iff_iff, beq_iff_eq, List.all_eq_true]
  unfold trimB trimR
  rw [h1]
  constructor
  · intro h
    -- what is left at the right has but such bytes: so nothing is left
    have h2 : l.reverse.dropWhile p = [] := by
      cases hd : l.reverse.dropWhile p with
      | nil => rfl
      | cons a t =>
        have ha : p a = false := by
          have := List.head_dropWhile_not p (l := l.reverse) (by rw [hd]; simp)
          simpa [hd] using this
        have := h a (by rw [hd]; simp)
        rw [ha] at this; cases this
    intro x hx
    exact (h1 _).1 h2 x (by simpa using hx)
  · intro h x hx
    have : x ∈ l.reverse := (List.dropWhile_sublist p).subset (by simpa using hx)
    exact h x (by simpa using this)

/-- The loops of strings.Trim at a set. -/
noncomputable def inv_tr (p : UInt8 → Bool) : Sstrings_Trim_strings_trimRightASCII_0 → Bool
  | .s0 s row => propB (row = setOf p ∧ s.size ≤ 70368744177664)
theorem i_tr {p : UInt8 → Bool} {s : ByteArray} {row : List AV} (h : row = setOf p ∧ s.size ≤ 70368744177664) : inv_tr p (.s0 s row) = true := propB_of h
def out_tr (p : UInt8 → Bool) : Sstrings_Trim_strings_trimRightASCII_0 → Ostrings_Trim_strings_trimRightASCII_0
  | .s0 s row => .x0 (bs (trimR p s.data.toList)) row
theorem l_tr (p : UInt8 → Bool) (K : PureK) : ∀ s o, lOf (inv_tr p) (out_tr p) s = some o → ∃ k, fuelRec (Rstrings_Trim_strings_trimRightASCII_0 K some) k s = some o :=
  fuel_of (inv_tr p) (out_tr p) (fun | .s0 s row => s.size) (by
    rintro ⟨s, row⟩ rec hi hrec
    obtain ⟨rfl, hs⟩ := of_propB hi
    obtain ⟨l, rfl⟩ := exists_bs s
    rw [bs_size] at hs
    simp only [Rstrings_Trim_strings_trimRightASCII_0, bs_size, bt_bs]
    rcases List.eq_nil_or_concat l with rfl | ⟨l, a, rfl⟩
    · rfl
    · have hlen : (l ++ [a]).length = l.length + 1 := by simp
      rw [List.concat_eq_append] at *
      rw [hlen] at hs ⊢
      rw [w64_id (n := ((l.length + 1 : Nat) : Int) - 1) (by omega) (by omega)]
      have hto : (((l.length + 1 : Nat) : Int) - 1).toNat = l.length := by omega
      rw [hto]
      have hget : (l ++ [a])[l.length]?.getD 0 = a := by simp
      have ha := a.toNat_lt
      rw [hget, br_yesD (by omega), br_yesD (by omega), br_yesD (by omega), br_yesD (by omega), setOf_get]
      simp only [optK_s, asBool_v]
      simp only [out_tr, bs_list, trimR_app]
      cases hp : p a with
      | false => rfl
      | true =>
        rw [Bool.not_true, br_f, br_yesD (by omega), br_yesD (by omega), cut_to, hto, List.take_left' rfl]
        rw [hrec _ (i_tr ⟨rfl, by rw [bs_size]; omega⟩) (by show (bs l).size < (bs (l ++ [a])).size; rw [bs_size, bs_size, hlen]; omega)]
        simp [out_tr, bs_list])

noncomputable def inv_tl (p : UInt8 → Bool) : Sstrings_Trim_strings_trimLeftASCII_0 → Bool
  | .s0 s row => propB (row = setOf p)
theorem i_tl {p : UInt8 → Bool} {s : ByteArray} {row : List AV} (h : row = setOf p) : inv_tl p (.s0 s row) = true := propB_of h
def out_tl (p : UInt8 → Bool) : Sstrings_Trim_strings_trimLeftASCII_0 → Ostrings_Trim_strings_trimLeftASCII_0
  | .s0 s row => .x0 (bs (s.data.toList.dropWhile p)) row
theorem l_tl (p : UInt8 → Bool) (K : PureK) : ∀ s o, lOf (inv_tl p) (out_tl p) s = some o → ∃ k, fuelRec (Rstrings_Trim_strings_trimLeftASCII_0 K some) k s = some o :=
  fuel_of (inv_tl p) (out_tl p) (fun | .s0 s row => s.size) (by
    rintro ⟨s, row⟩ rec hi hrec
    obtain rfl := of_propB hi
    obtain ⟨l, rfl⟩ := exists_bs s
    simp only [Rstrings_Trim_strings_trimLeftASCII_0, bs_size, bt_bs]
    cases l with
    | nil => rfl
    | cons a l =>
      have ha := a.toNat_lt
      simp only [List.length_cons, List.getElem?_cons_zero, Option.getD_some]
      rw [br_yesD (by omega), br_yesD (by omega), br_yesD (by omega), setOf_get]
      simp only [optK_s, asBool_v, out_tl, bs_list, List.dropWhile_cons]
      cases hp : p a with
      | false => rfl
      | true =>
        rw [Bool.not_true, br_f, br_yesD (by omega), cut_from]
        simp only [show (1 : Int).toNat = 1 from rfl, List.drop_succ_cons, List.drop_zero, if_true]
        rw [hrec _ (i_tl rfl) (by show (bs l).size < (bs (a :: l)).size; rw [bs_size, bs_size]; simp)]
        simp [out_tl, bs_list])

def digL : List UInt8 := [48, 49, 50, 51, 52, 53, 54, 55, 56, 57]
def e_set (cut : List UInt8) (p : UInt8 → Bool) : List AV → Option AV
  | [.v (.string s)] => br (s.data.toList == cut) (some (.tup [.agg (setOf p), bv true])) none
  | _ => none
theorem pc_set_dig : PureCall X f_strings_makeASCIISet [sv (bs digL)] (.tup [.agg (setOf isDig), bv true]) := top_ok soundX (ev_ok soundX ovr_ok 3) 300 _ _ _ (by kernel_rfl)
theorem e_set_dig_ok (xs : List AV) (v : AV) (h : e_set digL isDig xs = some v) : PureCall X f_strings_makeASCIISet xs v := by
  unfold e_set at h
  split at h
  · rename_i s
    obtain ⟨h1, h2⟩ := br_yes h
    cases h2
    have : s = bs digL := by rw [← bs_eta s, beq_iff_eq.1 h1]
    subst this
    exact pc_set_dig
  · cases h
def tbT : Tab := [(f_strings_makeASCIISet, e_set digL isDig)]
theorem tbT_ok : TabOk X tbT := tab_cons e_set_dig_ok tab_nil

theorem fits_set (p : UInt8 → Bool) : refFree (AV.tup [AV.agg (setOf p), bv true]) = true := by
  have : ∀ l : List Nat, refFrees (l.map fun i => bv (p (UInt8.ofNat i))) = true := by
    intro l; induction l with
    | nil => rfl
    | cons a l ih => simp only [List.map_cons, refFrees, Bool.and_eq_true]; exact ⟨rfl, ih⟩
  simp only [refFree, refFrees, Bool.and_true]
  exact this _

theorem t_Trim_dig (l : List UInt8) (hl : l.length ≤ 1000000000) : Rstrings_Trim (tabK tbT) (lOf (inv_tr isDig) (out_tr isDig)) (lOf (inv_tl isDig) (out_tl isDig)) (bs l) (bs digL) = some (sv (bs (trimB isDig l))) := by
  unfold Rstrings_Trim
  rw [emp, strEq_bs, strEq_bs]
  cases l with
  | nil => rfl
  | cons a t =>
    have h1 : ((a :: t : List UInt8) == []) = false := rfl
    rw [h1, show (digL == []) = false from rfl]
    simp only [br_f, br_t, optK_s, asBool_v, bs_size]
    rw [show ((((digL.length : Nat) : Int)) == 1) = false from rfl]
    simp only [br_f, optK_s, asBool_v]
    rw [show tabK tbT f_strings_makeASCIISet [sv (bs digL)] = br ((bs digL).data.toList == digL) (some (.tup [.agg (setOf isDig), bv true])) none from rfl, bs_list, br_pos (by simp)]
    simp only [optK_s]
    rw [asTup_v _ 2 rfl]
    simp only [List.getD_cons_zero, List.getD_cons_succ, asBig, setOf_length, asBool_v]
    rw [br_pos rfl, br_pos (fits_set isDig)]
    refine (br_pos (by kernel_rfl)).trans ?_
    rw [lOf_pos (i_tr ⟨rfl, by rw [bs_size]; omega⟩)]
    simp only [optK_s, out_tr, Ostrings_Trim_strings_trimRightASCII_0.k, bs_list]
    rw [lOf_pos (i_tl rfl)]
    simp only [optK_s, out_tl, Ostrings_Trim_strings_trimLeftASCII_0.k, bs_list]
    rfl
def e_Trim : List AV → Option AV
  | [.v (.string s), .v (.string c)] => br (c.data.toList == digL && decide (s.size ≤ 1000000000)) (some (sv (bs (trimB isDig s.data.toList)))) none
  | _ => none
theorem e_Trim_ok (xs : List AV) (v : AV) (h : e_Trim xs = some v) : PureCall X f_strings_Trim xs v := by
  unfold e_Trim at h
  split at h
  · rename_i s c
    obtain ⟨h1, h2⟩ := br_yes h
    cases h2
    simp only [Bool.and_eq_true, beq_iff_eq, decide_eq_true_eq] at h1
    obtain ⟨l, rfl⟩ := exists_bs s
    have : c = bs digL := by rw [← bs_eta c, h1.1]
    subst this
    rw [bs_size] at h1
    rw [bs_list]
    exact pcstrings_Trim (tab_ok _ tbT_ok) (l_tr isDig _) (l_tl isDig _) (t_Trim_dig l h1.2)
  · cases h



/-- The number that digits say. -/
def numGo : List UInt8 → Int → Int
  | [], n => n
  | b :: l, n => numGo l (n * 10 + ((b.toNat : Int) - 48))
theorem numGo_range : ∀ (l : List UInt8) (n : Int), l.all isDig = true → 0 ≤ n → 0 ≤ numGo l n ∧ numGo l n < (n + 1) * 10 ^ l.length
  | [], n, _, h => by simp [numGo]; omega
  | b :: l, n, hd, h => by
    simp only [List.all_cons, Bool.and_eq_true, isDig, decide_eq_true_eq] at hd
    have ih := numGo_range l (n * 10 + ((b.toNat : Int) - 48)) hd.2 (by omega)
    refine ⟨ih.1, Int.lt_of_lt_of_le ih.2 ?_⟩
    rw [List.length_cons, Int.pow_succ, Int.mul_comm ((10 : Int) ^ l.length) 10, ← Int.mul_assoc]
    exact Int.mul_le_mul_of_nonneg_right (by omega) (Int.pow_nonneg (by omega))
def bsOf : List AV → List UInt8
  | [] => []
  | .v (.int _ n) :: l => n.toNat.toUInt8 :: bsOf l
  | _ :: l => bsOf l
theorem bsOf_map : ∀ l : List UInt8, bsOf (l.map fun b => uv b.toNat) = l
  | [] => rfl
  | b :: l => by simp only [List.map_cons, bsOf, bsOf_map l, toU8]

/-- Atoi's loop over digits, few enough. -/
noncomputable def inv_at : Si_strconv_Atoi_0 → Bool
  | .s0 s n rows len i => propB (∃ l : List UInt8, rows = (l.map fun b => uv (b.toNat : Int)) ∧ l.all isDig = true ∧ len = l.length ∧ l.length ≤ 18 ∧ 0 ≤ i ∧ i ≤ len ∧ 0 ≤ n ∧ n < 10 ^ i.toNat)
theorem i_at {s : ByteArray} {n : Int} {rows : List AV} {len i : Int} (h : ∃ l : List UInt8, rows = (l.map fun b => uv (b.toNat : Int)) ∧ l.all isDig = true ∧ len = l.length ∧ l.length ≤ 18 ∧ 0 ≤ i ∧ i ≤ len ∧ 0 ≤ n ∧ n < 10 ^ i.toNat) : inv_at (.s0 s n rows len i) = true := propB_of h
def out_at : Si_strconv_Atoi_0 → Oi_strconv_Atoi_0
  | .s0 s n rows len i => .x1 s (numGo ((bsOf rows).drop i.toNat) n)
theorem pow_le_18 {k : Nat} (h : k ≤ 18) : (10 : Int) ^ k ≤ 1000000000000000000 := by
  have : k = 0 ∨ k = 1 ∨ k = 2 ∨ k = 3 ∨ k = 4 ∨ k = 5 ∨ k = 6 ∨ k = 7 ∨ k = 8 ∨ k = 9 ∨ k = 10 ∨ k = 11 ∨ k = 12 ∨ k = 13 ∨ k = 14 ∨ k = 15 ∨ k = 16 ∨ k = 17 ∨ k = 18 := by omega
  rcases this with rfl | rfl | rfl | rfl | rfl | rfl | rfl | rfl | rfl | rfl | rfl | rfl | rfl | rfl | rfl | rfl | rfl | rfl | rfl <;> decide
theorem w8_id {n : Int} (h1 : 0 ≤ n) (h2 : n < 256) : w8 n = n := by
  unfold w8 IntKind.wrap
  simp [IntKind.bits, IntKind.signed]
  omega
theorem l_at (K : PureK) : ∀ s o, lOf inv_at out_at s = some o → ∃ k, fuelRec (Ri_strconv_Atoi_0 K some) k s = some o :=
  fuel_of inv_at out_at (fun | .s0 s n rows len i => (len - i).toNat) (by
    rintro ⟨s, n, rows, len, i⟩ rec hi hrec
    obtain ⟨l, rfl, hd, rfl, h18, h0, hil, hn0, hn⟩ := of_propB hi
    simp only [Ri_strconv_Atoi_0]
    by_cases h : i < (l.length : Int)
    · have hlt : i.toNat < l.length := by omega
      have hb : isDig l[i.toNat] = true := List.all_eq_true.1 hd _ (List.getElem_mem hlt)
      simp only [isDig, Bool.and_eq_true, decide_eq_true_eq] at hb
      rw [br_yesD h, br_yesD h0, br_yesD (by rw [List.length_map]; exact h), List.getElem?_map, List.getElem?_eq_getElem hlt]
      simp only [Option.map_some, optK_s, asInt_v]
      have hp := pow_le_18 (k := i.toNat + 1) (by omega)
      have hn10 : n * 10 + 10 ≤ 10 ^ (i.toNat + 1) := by rw [Int.pow_succ]; omega
      rw [w8_id (n := ((l[i.toNat].toNat : Int)) - 48) (by omega) (by omega), br_noD (by omega)]
      rw [w64_id (n := n * 10) (by omega) (by omega), w64_id (n := ((l[i.toNat].toNat : Int)) - 48) (by omega) (by omega), w64_id (n := n * 10 + (((l[i.toNat].toNat : Int)) - 48)) (by omega) (by omega), w64_id (n := i + 1) (by omega) (by omega)]
      rw [hrec _ (i_at ⟨l, rfl, hd, rfl, h18, by omega, by omega, by omega, by rw [show (i + 1).toNat = i.toNat + 1 by omega]; omega⟩) (by show ((l.length : Int) - (i + 1)).toNat < ((l.length : Int) - i).toNat; omega)]
      simp only [out_at, bsOf_map]
      rw [show (i + 1).toNat = i.toNat + 1 by omega, List.drop_eq_getElem_cons hlt]
      rfl
    · rw [br_noD h]
      simp only [out_at, bsOf_map]
      rw [List.drop_of_length_le (by omega)]
      rfl)
theorem t_iAtoi (K : PureK) (l : List UInt8) (hd : l.all isDig = true) (h1 : 1 ≤ l.length) (h18 : l.length ≤ 18) : Ri_strconv_Atoi K (lOf inv_at out_at) (bs l) = some (.tup [iv (numGo l 0), .v .nilIface]) := by
  unfold Ri_strconv_Atoi
  obtain ⟨a, t, rfl⟩ : ∃ a t, l = a :: t := by cases l with | nil => simp at h1 | cons a t => exact ⟨a, t, rfl⟩
  have ha : isDig a = true := by simp only [List.all_cons, Bool.and_eq_true] at hd; exact hd.1
  simp only [isDig, Bool.and_eq_true, decide_eq_true_eq] at ha
  rw [bs_size, br_yesD (by omega)]
  simp only [optK_s, asBool_v]
  rw [br_yesD (by omega)]
  simp only [bt_bs, List.getElem?_cons_zero, Option.getD_some]
  have e45 : (((a.toNat : Int)) == 45) = false := by simp; omega
  have e43 : (((a.toNat : Int)) == 43) = false := by simp; omega
  rw [br_yesD (by omega), e45, br_f, br_yesD (by omega), e43]
  simp only [optK_s, asBool_v, br_f, bytesRows_bs]
  rw [lOf_pos (i_at ⟨a :: t, rfl, hd, by simp, h18, by omega, by simp; omega, by omega, by simp⟩)]
  simp only [optK_s, out_at, Oi_strconv_Atoi_0.k, bsOf_map, bs_size, bt_bs, List.getElem?_cons_zero, Option.getD_some]
  rw [br_yesD (by omega), e45, br_f]
  rfl
def e_iAtoi : List AV → Option AV
  | [.v (.string s)] => br (s.data.toList.all isDig && decide (1 ≤ s.data.toList.length) && decide (s.data.toList.length ≤ 18)) (some (.tup [iv (numGo s.data.toList 0), .v .nilIface])) none
  | _ => none
theorem e_iAtoi_ok (xs : List AV) (v : AV) (h : e_iAtoi xs = some v) : PureCall X f_i_strconv_Atoi xs v := by
  unfold e_iAtoi at h
  split at h
  · rename_i s
    obtain ⟨h1, h2⟩ := br_yes h
    cases h2
    obtain ⟨l, rfl⟩ := exists_bs s
    simp only [bs_list, Bool.and_eq_true, decide_eq_true_eq] at h1
    rw [bs_list]
    exact pci_strconv_Atoi ok_nil (l_at _) (t_iAtoi _ l h1.1.1 h1.1.2 h1.2)
  · cases h
def tbA1 : Tab := [(f_i_strconv_Atoi, e_iAtoi)]
theorem tbA1_ok : TabOk X tbA1 := tab_cons e_iAtoi_ok tab_nil
theorem e_Atoi_ok (xs : List AV) (v : AV) (h : e_iAtoi xs = some v) : PureCall X f_strconv_Atoi xs v := by
  have h' := h
  unfold e_iAtoi at h
  split at h
  · rename_i s
    obtain ⟨h1, h2⟩ := br_yes h
    cases h2
    exact pcstrconv_Atoi (tab_ok _ tbA1_ok) (by
      unfold Rstrconv_Atoi
      rw [show tabK tbA1 f_i_strconv_Atoi [sv s] = some (.tup [iv (numGo s.data.toList 0), .v .nilIface]) from h']
      rfl)
  · cases h


theorem t_HasPrefix (a b : List UInt8) (K : PureK) : Ri_stringslite_HasPrefix K (bs a) (bs b) = some (bv (b.isPrefixOf a)) := by
  unfold Ri_stringslite_HasPrefix
  simp only [bs_size, cut_to]
  have : (a.take ((b.length : Nat) : Int).toNat == b) = (decide (b.length ≤ a.length) && b.isPrefixOf a) := by
    rw [show ((b.length : Nat) : Int).toNat = b.length by omega, Bool.eq_iff_iff]
    simp only [beq_iff_eq, Bool.and_eq_true, decide_eq_true_eq, List.isPrefixOf_iff_prefix]
    constructor
    · intro h
      have h1 : b <+: a := ⟨a.drop b.length, by have := List.take_append_drop b.length a; rw [h] at this; exact this⟩
      exact ⟨h1.length_le, h1⟩
    · rintro ⟨_, t, rfl⟩; simp
  by_cases h : b.length ≤ a.length
  · rw [br_yesD (by omega), br_yesD (by omega), strEq_bs, this, decide_eq_true h]
    simp only [optK_s, asBool_v, Bool.true_and]
  · rw [br_noD (by omega)]
    have hn : b.isPrefixOf a = false := by
      rw [Bool.eq_false_iff]
      intro hp
      exact h (List.isPrefixOf_iff_prefix.1 hp).length_le
    rw [hn]; rfl
def e_HasPrefix : List AV → Option AV
  | [.v (.string s), .v (.string p)] => some (bv (p.data.toList.isPrefixOf s.data.toList))
  | _ => none
theorem e_HasPrefix_ok (xs : List AV) (v : AV) (h : e_HasPrefix xs = some v) : PureCall X f_i_stringslite_HasPrefix xs v := by
  unfold e_HasPrefix at h
  split at h
  · rename_i s p
    cases h
    obtain ⟨l, rfl⟩ := exists_bs s
    obtain ⟨m, rfl⟩ := exists_bs p
    rw [bs_list, bs_list]
    exact pci_stringslite_HasPrefix ok_nil (t_HasPrefix l m _)
  · cases h
def trimPre (p l : List UInt8) : List UInt8 := if p.isPrefixOf l = true then l.drop p.length else l
def tbP1 : Tab := [(f_i_stringslite_HasPrefix, e_HasPrefix)]
theorem tbP1_ok : TabOk X tbP1 := tab_cons e_HasPrefix_ok tab_nil
theorem t_sTrimPrefix (a b : List UInt8) : Ri_stringslite_TrimPrefix (tabK tbP1) (bs a) (bs b) = some (sv (bs (trimPre b a))) := by
  unfold Ri_stringslite_TrimPrefix trimPre
  rw [show tabK tbP1 f_i_stringslite_HasPrefix [sv (bs a), sv (bs b)] = some (bv ((bs b).data.toList.isPrefixOf (bs a).data.toList)) from rfl, bs_list, bs_list]
  simp only [optK_s, asBool_v, bs_size, cut_from]
  cases h : b.isPrefixOf a with
  | false => rfl
  | true =>
    have := (List.isPrefixOf_iff_prefix.1 h).length_le
    rw [br_t, br_yesD (by omega), if_pos rfl, show ((b.length : Nat) : Int).toNat = b.length by omega]
def e_TrimPrefix : List AV → Option AV
  | [.v (.string s), .v (.string p)] => some (sv (bs (trimPre p.data.toList s.data.toList)))
  | _ => none
theorem e_sTrimPrefix_ok (xs : List AV) (v : AV) (h : e_TrimPrefix xs = some v) : PureCall X f_i_stringslite_TrimPrefix xs v := by
  unfold e_TrimPrefix at h
  split at h
  · rename_i s p
    cases h
    obtain ⟨l, rfl⟩ := exists_bs s
    obtain ⟨m, rfl⟩ := exists_bs p
    rw [bs_list, bs_list]
    exact pci_stringslite_TrimPrefix (tab_ok _ tbP1_ok) (t_sTrimPrefix l m)
  · cases h
def tbP2 : Tab := [(f_i_stringslite_TrimPrefix, e_TrimPrefix)]
theorem tbP2_ok : TabOk X tbP2 := tab_cons e_sTrimPrefix_ok tab_nil
theorem e_TrimPrefix_ok (xs : List AV) (v : AV) (h : e_TrimPrefix xs = some v) : PureCall X f_strings_TrimPrefix xs v := by
  unfold e_TrimPrefix at h
  split at h
  · rename_i s p
    cases h
    exact pcstrings_TrimPrefix (tab_ok _ tbP2_ok) (by
      unfold Rstrings_TrimPrefix
      rw [show tabK tbP2 f_i_stringslite_TrimPrefix [sv s, sv p] = some (sv (bs (trimPre p.data.toList s.data.toList))) from rfl]
      simp only [optK_s, asStr_v])
  · cases h



/-- Two letters that differ in their case alone, or the same bytes. -/
def foldB (x y : UInt8) : Bool := x == y || (if y.toNat < x.toNat then (decide (65 ≤ y.toNat) && decide (y.toNat ≤ 90) && x.toNat == y.toNat + 32) else (decide (65 ≤ x.toNat) && decide (x.toNat ≤ 90) && y.toNat == x.toNat + 32))
def asc (b : UInt8) : Bool := decide (b.toNat < 128)

theorem or_small (x y : UInt8) (hx : x.toNat < 128) (hy : y.toNat < 128) : decide (w8 (((BitVec.ofInt 8 (x.toNat : Int) ||| BitVec.ofInt 8 (y.toNat : Int)).toNat : Nat) : Int) ≥ 128) = false := by
  have h1 : (BitVec.ofInt 8 (x.toNat : Int)).toNat = x.toNat := by
    rw [BitVec.toNat_ofInt]; omega
  have h2 : (BitVec.ofInt 8 (y.toNat : Int)).toNat = y.toNat := by
    rw [BitVec.toNat_ofInt]; omega
  have h3 : (BitVec.ofInt 8 (x.toNat : Int) ||| BitVec.ofInt 8 (y.toNat : Int)).toNat < 2 ^ 7 := by
    rw [BitVec.toNat_or, h1, h2]
    exact Nat.or_lt_two_pow (by omega) (by omega)
  rw [w8_id (by omega) (by omega)]
  exact decide_eq_false (by omega)

def badAt (a b : List UInt8) : Option Nat := (a.zip b).findIdx? fun p => !foldB p.1 p.2
noncomputable def inv_ef : Sstrings_EqualFold_0 → Bool
  | .s0 s t i n => propB (s.data.toList.all asc = true ∧ t.data.toList.all asc = true ∧ s.size ≤ 1000000000 ∧ t.size ≤ 1000000000 ∧ 0 ≤ i ∧ i ≤ n ∧ n = min (s.size : Int) (t.size : Int))
theorem i_ef {s t : ByteArray} {i n : Int} (h : s.data.toList.all asc = true ∧ t.data.toList.all asc = true ∧ s.size ≤ 1000000000 ∧ t.size ≤ 1000000000 ∧ 0 ≤ i ∧ i ≤ n ∧ n = min (s.size : Int) (t.size : Int)) : inv_ef (.s0 s t i n) = true := propB_of h
def out_ef : Sstrings_EqualFold_0 → Ostrings_EqualFold_0
  | .s0 s t i n => match badAt (s.data.toList.drop i.toNat) (t.data.toList.drop i.toNat) with
    | some j => .x1 s t false (i + j)
    | none => .x2 s t n

theorem badAt_cons (x y : UInt8) (a b : List UInt8) : badAt (x :: a) (y :: b) = if foldB x y = true then (badAt a b).map (· + 1) else some 0 := by
  unfold badAt
  rw [List.zip_cons_cons, List.findIdx?_cons]
  cases foldB x y <;> simp

theorem l_ef (K : PureK) : ∀ s o, lOf inv_ef out_ef s = some o → ∃ k, fuelRec (Rstrings_EqualFold_0 K some) k s = some o :=
  fuel_of inv_ef out_ef (fun | .s0 s t i n => (n - i).toNat) (by
    rintro ⟨s, t, i, n⟩ rec hi hrec
    obtain ⟨ha, hb, hsa, hsb, h0, hin, rfl⟩ := of_propB hi
    obtain ⟨a, rfl⟩ := exists_bs s
    obtain ⟨b, rfl⟩ := exists_bs t
    rw [bs_list] at ha hb
    rw [bs_size] at hsa hsb
    simp only [Rstrings_EqualFold_0, bs_size, bt_bs] at hin ⊢
    by_cases h : i < min (a.length : Int) (b.length : Int)
    · have hla : i.toNat < a.length := by omega
      have hlb : i.toNat < b.length := by omega
      have hx : asc a[i.toNat] = true := List.all_eq_true.1 ha _ (List.getElem_mem hla)
      have hy : asc b[i.toNat] = true := List.all_eq_true.1 hb _ (List.getElem_mem hlb)
      simp only [asc, decide_eq_true_eq] at hx hy
      rw [br_yesD h, br_yesD h0, br_yesD (by omega), br_yesD h0, br_yesD (by omega), List.getElem?_eq_getElem hla, List.getElem?_eq_getElem hlb]
      simp only [Option.getD_some]
      rw [br_neg (or_small _ _ hx hy)]
      have hda : a.drop i.toNat = a[i.toNat] :: a.drop (i + 1).toNat := by rw [show (i + 1).toNat = i.toNat + 1 by omega]; exact List.drop_eq_getElem_cons hla
      have hdb : b.drop i.toNat = b[i.toNat] :: b.drop (i + 1).toNat := by rw [show (i + 1).toNat = i.toNat + 1 by omega]; exact List.drop_eq_getElem_cons hlb
      have hgo : foldB a[i.toNat] b[i.toNat] = true → rec (.s0 (bs a) (bs b) (w64 (i + 1)) (min (a.length : Int) (b.length : Int))) = some (out_ef (.s0 (bs a) (bs b) i (min (a.length : Int) (b.length : Int)))) := by
        intro hf
        rw [w64_id (n := i + 1) (by omega) (by omega)]
        rw [hrec _ (i_ef ⟨by rw [bs_list]; exact ha, by rw [bs_list]; exact hb, by rw [bs_size]; exact hsa, by rw [bs_size]; exact hsb, by omega, by omega, by rw [bs_size, bs_size]⟩) (by show (min (a.length : Int) (b.length : Int) - (i + 1)).toNat < (min (a.length : Int) (b.length : Int) - i).toNat; omega)]
        simp only [out_ef, bs_list]
        rw [hda, hdb, badAt_cons, if_pos hf]
        cases badAt (a.drop (i + 1).toNat) (b.drop (i + 1).toNat) with
        | none => rfl
        | some j => simp only [Option.map_some]; congr 2; omega
      have hst : foldB a[i.toNat] b[i.toNat] = false → some (Ostrings_EqualFold_0.x1 (bs a) (bs b) false i) = some (out_ef (.s0 (bs a) (bs b) i (min (a.length : Int) (b.length : Int)))) := by
        intro hf
        simp only [out_ef, bs_list]
        rw [hda, hdb, badAt_cons, if_neg (by rw [hf]; simp)]
        simp
      generalize a[i.toNat] = x at *
      generalize b[i.toNat] = y at *
      have hxy : (((y.toNat : Int)) == (x.toNat : Int)) = (x == y) := by
        rw [Bool.eq_iff_iff, beq_iff_eq, beq_iff_eq]
        constructor
        · intro h; exact (UInt8.toNat_inj.1 (by omega))
        · rintro rfl; rfl
      rw [hxy]
      cases he : (x == y) with
      | true => rw [br_t]; exact hgo (by unfold foldB; rw [he]; rfl)
      | false =>
        rw [br_f]
        have hne : x.toNat ≠ y.toNat := fun h => by
          have := UInt8.toNat_inj.1 h
          subst this
          simp at he
        by_cases hlt : y.toNat < x.toNat
        · rw [br_yesD (by omega)]
          by_cases c1 : 65 ≤ y.toNat
          · by_cases c2 : y.toNat ≤ 90
            · rw [br_yesD (by omega), br_yesD (by omega), w8_id (n := (y.toNat : Int) + 97) (by omega) (by omega), w8_id (n := (y.toNat : Int) + 97 - 65) (by omega) (by omega)]
              simp only [optK_s, asBool_v]
              by_cases c3 : x.toNat = y.toNat + 32
              · rw [br_pos (by simp; omega)]
                exact hgo (by unfold foldB; rw [he, if_pos hlt]; simp [c1, c2, c3])
              · rw [br_neg (by simp; omega)]
                exact hst (by unfold foldB; rw [he, if_pos hlt]; simp [c3])
            · rw [br_yesD (by omega), br_noD (by omega)]
              exact hst (by unfold foldB; rw [he, if_pos hlt]; simp [c2])
          · rw [br_noD (by omega)]
            exact hst (by unfold foldB; rw [he, if_pos hlt]; simp [c1])
        · rw [br_noD (by omega)]
          by_cases c1 : 65 ≤ x.toNat
          · by_cases c2 : x.toNat ≤ 90
            · rw [br_yesD (by omega), br_yesD (by omega), w8_id (n := (x.toNat : Int) + 97) (by omega) (by omega), w8_id (n := (x.toNat : Int) + 97 - 65) (by omega) (by omega)]
              simp only [optK_s, asBool_v]
              by_cases c3 : y.toNat = x.toNat + 32
              · rw [br_pos (by simp; omega)]
                exact hgo (by unfold foldB; rw [he, if_neg hlt]; simp [c1, c2, c3])
              · rw [br_neg (by simp; omega)]
                exact hst (by unfold foldB; rw [he, if_neg hlt]; simp [c3])
            · rw [br_yesD (by omega), br_noD (by omega)]
              exact hst (by unfold foldB; rw [he, if_neg hlt]; simp [c2])
          · rw [br_noD (by omega)]
            exact hst (by unfold foldB; rw [he, if_neg hlt]; simp [c1])
    · rw [br_noD h]
      have hz : a.drop i.toNat = [] ∨ b.drop i.toNat = [] := by
        rcases Nat.le_total a.length b.length with hl | hl
        · exact .inl (List.drop_of_length_le (by omega))
        · exact .inr (List.drop_of_length_le (by omega))
      have hb0 : badAt (a.drop i.toNat) (b.drop i.toNat) = none := by
        rcases hz with hz | hz <;> rw [hz] <;> simp [badAt]
      simp only [out_ef, bs_list, hb0]
      have : i = min (a.length : Int) (b.length : Int) := by omega
      rw [← this])

def eqFold (a b : List UInt8) : Bool := decide (a.length = b.length) && (a.zip b).all fun p => foldB p.1 p.2

theorem t_EqualFold (K : PureK) (l1 : Sstrings_EqualFold_1 → Option Ostrings_EqualFold_1) (a b : List UInt8) (ha : a.all asc = true) (hb : b.all asc = true) (hla : a.length ≤ 1000000000) (hlb : b.length ≤ 1000000000)
    (hab : a.length = b.length) : Rstrings_EqualFold K (lOf inv_ef out_ef) l1 (bs a) (bs b) = some (bv (eqFold a b)) := by
  unfold Rstrings_EqualFold
  have hif : (if ((bs b).size : Int) < ((bs a).size : Int) then ((bs b).size : Int) else ((bs a).size : Int)) = min ((bs a).size : Int) ((bs b).size : Int) := by
    split <;> omega
  simp only [hif]
  rw [lOf_pos (i_ef ⟨by rw [bs_list]; exact ha, by rw [bs_list]; exact hb, by rw [bs_size]; exact hla, by rw [bs_size]; exact hlb, by omega, by omega, rfl⟩)]
  simp only [optK_s, out_ef, bs_list]
  rw [show (0 : Int).toNat = 0 from rfl, List.drop_zero, List.drop_zero]
  unfold eqFold
  cases hbad : badAt a b with
  | none =>
    simp only [Ostrings_EqualFold_0.k, bs_size]
    have : (a.zip b).all (fun p => foldB p.1 p.2) = true := by
      rw [List.all_eq_true]
      intro p hp
      have := (List.findIdx?_eq_none_iff.1 hbad) p hp
      simpa using this
    rw [this, Bool.and_true]
    refine congrArg (fun b => some (bv b)) ?_
    rw [Bool.eq_iff_iff, beq_iff_eq, decide_eq_true_eq]
    omega
  | some j =>
    simp only [Ostrings_EqualFold_0.k]
    have : (a.zip b).all (fun p => foldB p.1 p.2) = false := by
      obtain ⟨hj, hp, _⟩ := List.findIdx?_eq_some_iff_getElem.1 hbad
      rw [Bool.eq_false_iff]
      intro hall
      have := List.all_eq_true.1 hall _ (List.getElem_mem hj)
      rw [this] at hp
      cases hp
    rw [this, Bool.and_false]
def e_EqualFold : List AV → Option AV
  | [.v (.string s), .v (.string t)] => br (s.data.toList.all asc && t.data.toList.all asc && decide (s.data.toList.length ≤ 1000000000) && decide (s.data.toList.length = t.data.toList.length)) (some (bv (eqFold s.data.toList t.data.toList))) none
  | _ => none
theorem e_EqualFold_ok (xs : List AV) (v : AV) (h : e_EqualFold xs = some v) : PureCall X f_strings_EqualFold xs v := by
  unfold e_EqualFold at h
  split at h
  · rename_i s t
    obtain ⟨h1, h2⟩ := br_yes h
    cases h2
    obtain ⟨a, rfl⟩ := exists_bs s
    obtain ⟨b, rfl⟩ := exists_bs t
    simp only [bs_list, Bool.and_eq_true, decide_eq_true_eq] at h1 ⊢
    exact pcstrings_EqualFold ok_nil (l_ef _) (lstrings_EqualFold_2 := fun _ => none) (fun s o h => by cases h) (lstrings_EqualFold_1 := fun _ => none) (fun s o h => by cases h) (t_EqualFold _ _ a b h1.1.1.1 h1.1.1.2 h1.1.2 (by omega) h1.2)
  · cases h
end Go.Proofs.YtmiffikcnkgcpaaGreatDoor
