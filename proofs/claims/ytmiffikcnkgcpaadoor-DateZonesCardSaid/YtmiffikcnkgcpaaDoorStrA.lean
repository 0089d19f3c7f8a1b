import Derived.Test.YtmiffikcnkgcpaaDoorToldStr
import Derived.Test.YtmiffikcnkgcpaaDoorAbStr
set_option linter.unusedVariables false
set_option linter.unusedSimpArgs false
set_option maxRecDepth 100000
namespace Go.Proofs.YtmiffikcnkgcpaaDoor
open Go Go.Ab

def tbS0 : Tab := [(f_i_bytealg_IndexByteString, xIndexByteString), (f_i_bytealg_CountString, xCountString)]
theorem tbS0_ok : TabOk X tbS0 := tab_cons (fun xs v h => ovr_ok _ _ rfl xs v h) (tab_cons (fun xs v h => ovr_ok _ _ rfl xs v h) tab_nil)



theorem t_IndexByte (l : List UInt8) (c : UInt8) : Ri_stringslite_IndexByte (tabK tbS0) (bs l) (c.toNat : Int) = some (iv (firstIdx (bs l) c)) := by
  unfold Ri_stringslite_IndexByte
  rw [show tabK tbS0 f_i_bytealg_IndexByteString [sv (bs l), uv (c.toNat : Int)] = some (iv (firstIdx (bs l) ((c.toNat : Int)).toNat.toUInt8)) from rfl, toU8]
  simp only [optK_s, asInt_v]
def e_IndexByte : List AV → Option AV
  | [.v (.string s), .v (.int .u8 c)] => br (decide (0 ≤ c ∧ c < 256)) (some (iv (firstIdx s c.toNat.toUInt8))) none
  | _ => none
theorem e_IndexByte_ok (xs : List AV) (v : AV) (h : e_IndexByte xs = some v) : PureCall X f_i_stringslite_IndexByte xs v := by
  unfold e_IndexByte at h
  split at h
  · rename_i s c
    obtain ⟨h1, h2⟩ := br_yes h
    cases h2
    have h1 := of_decide_eq_true h1
    obtain ⟨l, rfl⟩ := exists_bs s
    have hc : c = ((c.toNat.toUInt8).toNat : Int) := by
      have : c.toNat < 256 := by omega
      rw [Nat.toUInt8, UInt8.toNat_ofNat']
      omega
    have := t_IndexByte l c.toNat.toUInt8
    rw [← hc] at this
    exact pci_stringslite_IndexByte (tab_ok _ tbS0_ok) this
  · cases h
def tbS1 : Tab := (f_i_stringslite_IndexByte, e_IndexByte) :: tbS0
theorem tbS1_ok : TabOk X tbS1 := tab_cons e_IndexByte_ok tbS0_ok

theorem k_IndexByte (l : List UInt8) (c : UInt8) : tabK tbS1 f_i_stringslite_IndexByte [sv (bs l), uv (c.toNat : Int)] = some (iv (firstIdx (bs l) c)) := by
  have hc : 0 ≤ (c.toNat : Int) ∧ (c.toNat : Int) < 256 := ⟨by omega, by have := c.toNat_lt; omega⟩
  show br (decide (0 ≤ (c.toNat : Int) ∧ (c.toNat : Int) < 256)) (some (iv (firstIdx (bs l) ((c.toNat : Int)).toNat.toUInt8))) none = _
  rw [br_yesD hc, toU8]
theorem t_Index1 (l : List UInt8) (c : UInt8) : Ri_stringslite_Index (tabK tbS1) (bs l) (bs [c]) = some (iv (firstIdx (bs l) c)) := by
  unfold Ri_stringslite_Index
  rw [show (bs [c]).size = 1 from rfl, strEq_bs, bt_bs]
  simp only [List.getElem?_cons_zero, Option.getD_some]
  rw [k_IndexByte]
  cases h : ([c] == l) with
  | true =>
    have : l = [c] := (beq_iff_eq.1 h).symm
    subst this
    have : firstIdx (bs ([] ++ c :: [])) c = ([] : List UInt8).length := firstIdx_at (by simp)
    rw [show ([] : List UInt8) ++ [c] = [c] from rfl] at this
    rw [this]; rfl
  | false => simp only [optK_s, asInt_v, asBool_v]; rfl
def e_Index : List AV → Option AV
  | [.v (.string s), .v (.string p)] => match p.data.toList with
    | [c] => some (iv (firstIdx s c))
    | _ => none
  | _ => none
theorem e_sIndex_ok (xs : List AV) (v : AV) (h : e_Index xs = some v) : PureCall X f_i_stringslite_Index xs v := by
  unfold e_Index at h
  split at h
  · rename_i s p
    split at h
    · rename_i c hc
      cases h
      obtain ⟨l, rfl⟩ := exists_bs s
      have hp : p = bs [c] := by rw [← hc, bs_eta]
      subst hp
      exact pci_stringslite_Index (tab_ok _ tbS1_ok) (t_Index1 l c)
    · cases h
  · cases h
def tbS2 : Tab := (f_i_stringslite_Index, e_Index) :: tbS1
theorem tbS2_ok : TabOk X tbS2 := tab_cons e_sIndex_ok tbS1_ok
theorem t_Index (l : List UInt8) (c : UInt8) : Rstrings_Index (tabK tbS2) (bs l) (bs [c]) = some (iv (firstIdx (bs l) c)) := by
  unfold Rstrings_Index
  rw [show tabK tbS2 f_i_stringslite_Index [sv (bs l), sv (bs [c])] = some (iv (firstIdx (bs l) c)) from rfl]
  simp only [optK_s, asInt_v]
theorem e_Index_ok (xs : List AV) (v : AV) (h : e_Index xs = some v) : PureCall X f_strings_Index xs v := by
  unfold e_Index at h
  split at h
  · rename_i s p
    split at h
    · rename_i c hc
      cases h
      obtain ⟨l, rfl⟩ := exists_bs s
      have hp : p = bs [c] := by rw [← hc, bs_eta]
      subst hp
      exact pcstrings_Index (tab_ok _ tbS2_ok) (t_Index l c)
    · cases h
  · cases h
def tbS3 : Tab := (f_strings_Index, e_Index) :: tbS2
theorem tbS3_ok : TabOk X tbS3 := tab_cons e_Index_ok tbS2_ok

theorem t_Count (l : List UInt8) (c : UInt8) (lp : Sstrings_Count_0 → Option Ostrings_Count_0) : Rstrings_Count (tabK tbS3) lp (bs l) (bs [c]) = some (iv (l.count c : Nat)) := by
  unfold Rstrings_Count
  rw [show (bs [c]).size = 1 from rfl, bt_bs]
  simp only [List.getElem?_cons_zero, Option.getD_some]
  rw [show tabK tbS3 f_i_bytealg_CountString [sv (bs l), uv (c.toNat : Int)] = some (iv ((bs l).foldl (fun (n : Int) x => if x == ((c.toNat : Int)).toNat.toUInt8 then n + 1 else n) ((0 : Nat) : Int))) from rfl, toU8, count_bs]
  simp only [optK_s, asInt_v]
  rfl
def e_Count : List AV → Option AV
  | [.v (.string s), .v (.string p)] => match p.data.toList with
    | [c] => some (iv (s.data.toList.count c : Nat))
    | _ => none
  | _ => none
theorem e_Count_ok (xs : List AV) (v : AV) (h : e_Count xs = some v) : PureCall X f_strings_Count xs v := by
  unfold e_Count at h
  split at h
  · rename_i s p
    split at h
    · rename_i c hc
      cases h
      obtain ⟨l, rfl⟩ := exists_bs s
      have hp : p = bs [c] := by rw [← hc, bs_eta]
      subst hp
      rw [bs_list]
      exact pcstrings_Count (tab_ok _ tbS3_ok) (lstrings_Count_0 := fun _ => none) (fun s o h => by cases h) (t_Count l c _)
    · cases h
  · cases h
def tbS4 : Tab := (f_strings_Count, e_Count) :: tbS3
theorem tbS4_ok : TabOk X tbS4 := tab_cons e_Count_ok tbS3_ok

def svs (ps : List (List UInt8)) : List AV := ps.map fun p => sv (bs p)

/-- The loop of strings.genSplit at a separator of one byte. -/
noncomputable def inv_gs (c : UInt8) : Sstrings_genSplit_0 → Bool
  | .s0 s sep save n i obj => propB (sep = bs [c] ∧ save = 0 ∧ 0 ≤ i ∧ s.size ≤ 70368744177664 ∧ i + (s.data.toList.count c : Nat) = n ∧ n < 70368744177664 ∧ (obj.length : Int) = n + 1)
theorem i_gs {c : UInt8} {s sep : ByteArray} {save n i : Int} {obj : List AV} (h : sep = bs [c] ∧ save = 0 ∧ 0 ≤ i ∧ s.size ≤ 70368744177664 ∧ i + (s.data.toList.count c : Nat) = n ∧ n < 70368744177664 ∧ (obj.length : Int) = n + 1) : inv_gs c (.s0 s sep save n i obj) = true := propB_of h
def out_gs (c : UInt8) : Sstrings_genSplit_0 → Ostrings_genSplit_0
  | .s0 s sep save n i obj => .x0 (bs ((splitL c s.data.toList).getLast (splitL_ne c _))) n (obj.take i.toNat ++ svs (splitL c s.data.toList).dropLast ++ obj.drop n.toNat)

theorem l_gs (c : UInt8) : ∀ s o, lOf (inv_gs c) (out_gs c) s = some o → ∃ k, fuelRec (Rstrings_genSplit_0 (tabK tbS4) some) k s = some o :=
  fuel_of (inv_gs c) (out_gs c) (fun | .s0 s sep save n i obj => (n - i).toNat) (by
    rintro ⟨s, sep, save, n, i, obj⟩ rec hi hrec
    obtain ⟨rfl, rfl, h0, hs, hc, hn, ho⟩ := of_propB hi
    obtain ⟨l, rfl⟩ := exists_bs s
    rw [bs_list] at hc
    rw [bs_size] at hs
    simp only [Rstrings_genSplit_0]
    by_cases h : i < n
    · have hm : c ∈ l := List.count_pos_iff.1 (by omega)
      obtain ⟨a, b, rfl, ha⟩ := mem_split hm
      rw [br_yesD h, show tabK tbS4 f_strings_Index [sv (bs (a ++ c :: b)), sv (bs [c])] = some (iv (firstIdx (bs (a ++ c :: b)) c)) from rfl, firstIdx_at ha]
      simp only [optK_s, asInt_v]
      have hca : List.count c a = 0 := List.count_eq_zero.2 ha
      have hcc : List.count c (a ++ c :: b) = List.count c b + 1 := by rw [List.count_append, hca]; simp
      have hl : (a ++ c :: b).length = a.length + b.length + 1 := by simp; omega
      rw [hl] at hs
      rw [hcc] at hc
      rw [bs_size, hl, show (bs [c]).size = 1 from rfl]
      rw [w64_id (n := (a.length : Int) + 0) (by omega) (by omega), w64_id (n := (a.length : Int) + ((1 : Nat) : Int)) (by omega) (by omega), w64_id (n := i + 1) (by omega) (by omega)]
      rw [br_noD (by omega), br_yesD (by omega), br_yesD (by omega), br_yesD h0, br_yesD (by omega), br_yesD (by omega), br_yesD (by omega)]
      rw [cut_from, cut_to]
      have e1 : (a ++ c :: b).drop ((a.length : Int) + ((1 : Nat) : Int)).toNat = b := by
        rw [show ((a.length : Int) + ((1 : Nat) : Int)).toNat = a.length + 1 by omega]
        simp
      have e2 : (a ++ c :: b).take ((a.length : Int) + 0).toNat = a := by
        rw [show ((a.length : Int) + 0).toNat = a.length by omega]
        simp
      rw [e1, e2]
      rw [hrec _ (i_gs ⟨rfl, rfl, by omega, by rw [bs_size]; omega, by rw [bs_list]; omega, hn, by simp; omega⟩) (by show (n - (i + 1)).toNat < (n - i).toNat; omega)]
      simp only [out_gs, bs_list, splitL_at c b ha]
      have hne := splitL_ne c b
      congr 2
      · rw [List.getLast_cons hne]
      · rw [List.dropLast_cons_of_ne_nil hne]
        have hi1 : (i + 1).toNat = i.toNat + 1 := by omega
        have hil : i.toNat < obj.length := by omega
        rw [hi1, Nat.zero_add, List.drop_set_of_lt (by omega), List.take_succ_eq_append_getElem (by simpa using hil)]
        simp [svs, List.take_set_of_le]
    · have hin : i = n := by omega
      have hcz : l.count c = 0 := by omega
      have hm : c ∉ l := List.count_eq_zero.1 hcz
      rw [br_noD h]
      simp only [out_gs, bs_list, splitL_no c hm]
      subst hin
      simp [svs])

theorem t_genSplit (l : List UInt8) (c : UInt8) (hl : l.length ≤ 1000000000) : Rstrings_genSplit (tabK tbS4) (lOf (inv_gs c) (out_gs c)) (bs l) (bs [c]) 0 (-1) = some (.lst 1 false (svs (splitL c l))) := by
  unfold Rstrings_genSplit
  have hcl : l.count c ≤ l.length := List.count_le_length
  rw [emp, strEq_bs, show tabK tbS4 f_strings_Count [sv (bs l), sv (bs [c])] = some (iv ((bs l).data.toList.count c : Nat)) from rfl, bs_list]
  rw [show ((-1 : Int) == 0) = false from rfl, br_f, show ([c] == []) = false from rfl, br_f, show decide ((-1 : Int) < 0) = true from rfl, br_t]
  simp only [optK_s, asInt_v]
  have hif : (if w64 (((bs l).size : Int) + 1) < w64 ((l.count c : Nat) + 1) then w64 (((bs l).size : Int) + 1) else w64 ((l.count c : Nat) + 1)) = (l.count c : Nat) + 1 := by
    rw [bs_size, w64_id (n := (l.count c : Int) + 1) (by omega) (by omega), w64_id (n := (l.length : Int) + 1) (by omega) (by omega)]
    rw [if_neg (by omega)]
  simp only [hif]
  have hto : ((l.count c : Int) + 1).toNat = l.count c + 1 := by omega
  rw [hto, br_yesD (by omega), br_yesD (by omega)]
  rw [br_pos (by simp only [lenOk, maxBytes, Bool.and_eq_true]; constructor <;> (rw [Nat.ble_eq]; omega))]
  rw [w64_id (n := (l.count c : Int) + 1 - 1) (by omega) (by omega)]
  rw [lOf_pos (i_gs ⟨rfl, rfl, by omega, by rw [bs_size]; omega, by rw [bs_list]; omega, by omega, by simp⟩)]
  simp only [optK_s, out_gs, Ostrings_genSplit_0.k, bs_list]
  have hlen := splitL_length c l
  have hne := splitL_ne c l
  have hd : (splitL c l).dropLast.length = l.count c := by simp; omega
  have hobj : (List.take (0 : Int).toNat (List.replicate (l.count c + 1) (sv (bs []))) ++ svs (splitL c l).dropLast ++ List.drop ((l.count c : Int) + 1 - 1).toNat (List.replicate (l.count c + 1) (sv (bs [])))) =
      svs (splitL c l).dropLast ++ [sv (bs [])] := by
    rw [show ((l.count c : Int) + 1 - 1).toNat = l.count c by omega]
    simp [List.drop_replicate]
  rw [hobj]
  have hsl : (svs (splitL c l).dropLast).length = l.count c := by rw [← hd]; simp [svs]
  rw [show (l.count c : Int) + 1 - 1 = (l.count c : Nat) by omega]
  rw [w64_id (n := ((l.count c : Nat) : Int) + 1) (by omega) (by omega)]
  have hl1 : (svs (splitL c l).dropLast ++ [sv (bs [])]).length = l.count c + 1 := by rw [List.length_append, hsl]; rfl
  rw [br_yesD (by omega), br_yesD (by rw [hl1]; omega), br_yesD (by omega), br_yesD (by rw [List.length_set, hl1]; omega)]
  refine congrArg some (congrArg (AV.lst 1 false) ?_)
  rw [hto, Nat.zero_add, show ((l.count c : Nat) : Int).toNat = l.count c by omega]
  rw [List.set_append_right _ _ (by omega), hsl, Nat.sub_self]
  simp only [List.set_cons_zero]
  rw [List.take_of_length_le (by simp [hsl])]
  have := List.dropLast_concat_getLast hne
  conv => rhs; rw [← this]
  simp [svs]

def e_genSplit : List AV → Option AV
  | [.v (.string s), .v (.string p), .v (.int .i64 0), .v (.int .i64 (-1))] => match p.data.toList with
    | [c] => br (decide (s.size ≤ 1000000000)) (some (.lst 1 false (svs (splitL c s.data.toList)))) none
    | _ => none
  | _ => none
theorem e_genSplit_ok (xs : List AV) (v : AV) (h : e_genSplit xs = some v) : PureCall X f_strings_genSplit xs v := by
  unfold e_genSplit at h
  split at h
  · rename_i s p
    split at h
    · rename_i c hc
      obtain ⟨h1, h2⟩ := br_yes h
      cases h2
      have h1 := of_decide_eq_true h1
      obtain ⟨l, rfl⟩ := exists_bs s
      have hp : p = bs [c] := by rw [← hc, bs_eta]
      subst hp
      rw [bs_size] at h1
      rw [bs_list]
      exact pcstrings_genSplit (tab_ok _ tbS4_ok) (l_gs c) (t_genSplit l c h1)
    · cases h
  · cases h
def tbS5 : Tab := (f_strings_genSplit, e_genSplit) :: tbS4
theorem tbS5_ok : TabOk X tbS5 := tab_cons e_genSplit_ok tbS4_ok
theorem t_Split (l : List UInt8) (c : UInt8) (hl : l.length ≤ 1000000000) : Rstrings_Split (tabK tbS5) (bs l) (bs [c]) = some (.lst 1 false (svs (splitL c l))) := by
  unfold Rstrings_Split
  rw [show tabK tbS5 f_strings_genSplit [sv (bs l), sv (bs [c]), iv 0, iv (-1)] = br (decide ((bs l).size ≤ 1000000000)) (some (.lst 1 false (svs (splitL c (bs l).data.toList)))) none from rfl, bs_list, bs_size, br_yesD hl]
  simp only [optK_s, asLst_v]
def e_Split : List AV → Option AV
  | [.v (.string s), .v (.string p)] => match p.data.toList with
    | [c] => br (decide (s.size ≤ 1000000000)) (some (.lst 1 false (svs (splitL c s.data.toList)))) none
    | _ => none
  | _ => none
theorem e_Split_ok (xs : List AV) (v : AV) (h : e_Split xs = some v) : PureCall X f_strings_Split xs v := by
  unfold e_Split at h
  split at h
  · rename_i s p
    split at h
    · rename_i c hc
      obtain ⟨h1, h2⟩ := br_yes h
      cases h2
      have h1 := of_decide_eq_true h1
      obtain ⟨l, rfl⟩ := exists_bs s
      have hp : p = bs [c] := by rw [← hc, bs_eta]
      subst hp
      rw [bs_size] at h1
      rw [bs_list]
      exact pcstrings_Split (tab_ok _ tbS5_ok) (t_Split l c h1)
    · cases h
  · cases h
end Go.Proofs.YtmiffikcnkgcpaaDoor
