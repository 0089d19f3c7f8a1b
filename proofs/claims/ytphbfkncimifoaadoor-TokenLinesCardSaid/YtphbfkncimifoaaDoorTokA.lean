import Derived.Test.YtphbfkncimifoaaDoorStrN
import Derived.Test.YtphbfkncimifoaaDoorAbByt
set_option linter.unusedVariables false
set_option linter.unusedSimpArgs false
set_option maxRecDepth 100000
namespace Go.Proofs.YtphbfkncimifoaaDoor
/- Library functions that token reaches. -/
open Go Go.Ab

/-! bytes.IndexByte, bytes.Cut (at one byte) -/
theorem pc_biIndexByte (n : Bool) (l : List UInt8) (c : UInt8) : PureCall X f_i_bytealg_IndexByte [.lst 1 n (uvs l), uv c.toNat] (iv (firstIdx (bs l) c)) :=
  xIndexByte_ok (fn := Tryd.f37) Tryd.func37 (by kernel_rfl) (by kernel_rfl) (by kernel_rfl) (by kernel_rfl) n l c
abbrev encBy (a : Bool × List UInt8 × UInt8) : List AV := [.lst 1 a.1 (uvs a.2.1), uv a.2.2.toNat]
theorem encBy_inj {a b : Bool × List UInt8 × UInt8} (h : encBy a = encBy b) : a = b := by
  obtain ⟨n, l, c⟩ := a
  obtain ⟨n', l', c'⟩ := b
  simp [encBy, uvs_inj_iff] at h
  obtain ⟨⟨rfl, rfl⟩, h⟩ := h
  rw [u8_inj h]
noncomputable abbrev E_biIndexByte := callF X f_i_bytealg_IndexByte encBy (fun _ => True) fun a => iv (firstIdx (bs a.2.1) a.2.2)
theorem k_biIndexByte {T : Tab} (hT : tabK T f_i_bytealg_IndexByte = E_biIndexByte) (n : Bool) (l : List UInt8) (c : UInt8) : tabK T f_i_bytealg_IndexByte [.lst 1 n (uvs l), uv c.toNat] = some (iv (firstIdx (bs l) c)) := by
  rw [hT]
  exact callF_eq (fun a _ => pc_biIndexByte a.1 a.2.1 a.2.2) (fun a b h => by rw [encBy_inj h]) (a := (n, l, c)) trivial
noncomputable def tbIB : Tab := [(f_i_bytealg_IndexByte, E_biIndexByte)]
theorem tbIB_ok : TabOk X tbIB := tab_cons callQ_ok tab_nil
theorem pc_IndexByte (n : Bool) (l : List UInt8) (c : UInt8) : PureCall X f_bytes_IndexByte [.lst 1 n (uvs l), uv c.toNat] (iv (firstIdx (bs l) c)) := by
  refine pcbytes_IndexByte (tab_ok _ tbIB_ok) ?_
  unfold Rbytes_IndexByte
  rw [k_biIndexByte rfl]
  rfl
noncomputable abbrev E_IndexByte := callF X f_bytes_IndexByte encBy (fun _ => True) fun a => iv (firstIdx (bs a.2.1) a.2.2)
theorem k_IndexByte {T : Tab} (hT : tabK T f_bytes_IndexByte = E_IndexByte) (n : Bool) (l : List UInt8) (c : UInt8) : tabK T f_bytes_IndexByte [.lst 1 n (uvs l), uv c.toNat] = some (iv (firstIdx (bs l) c)) := by
  rw [hT]
  exact callF_eq (fun a _ => pc_IndexByte a.1 a.2.1 a.2.2) (fun a b h => by rw [encBy_inj h]) (a := (n, l, c)) trivial

/-! strings.TrimSuffix, strings.CutSuffix at one byte -/
abbrev encSu (a : List UInt8 × UInt8) : List AV := [sv (bs a.1), sv (bs [a.2])]
theorem encSu_inj {a b : List UInt8 × UInt8} (h : encSu a = encSu b) : a = b := by
  obtain ⟨l, c⟩ := a
  obtain ⟨l', c'⟩ := b
  simp [encSu, bs_inj_iff] at h
  obtain ⟨rfl, rfl⟩ := h
  rfl
theorem suf_cases (l : List UInt8) (c : UInt8) : (∃ r, l = r ++ [c]) ∨ (l = [] ∨ ∃ r d, l = r ++ [d] ∧ d ≠ c) := by
  rcases List.eq_nil_or_concat l with rfl | ⟨r, d, rfl⟩
  · exact .inr (.inl rfl)
  · by_cases h : d = c
    · exact .inl ⟨r, by simp [h]⟩
    · exact .inr (.inr ⟨r, d, by simp, h⟩)
def hasSuf (l : List UInt8) (c : UInt8) : Bool := l.getLast? == some c
def cutSuf (l : List UInt8) (c : UInt8) : List UInt8 := match hasSuf l c with
  | true => l.dropLast
  | false => l
theorem hasSuf_yes (r : List UInt8) (c : UInt8) : hasSuf (r ++ [c]) c = true := by simp [hasSuf]
theorem hasSuf_no (r : List UInt8) {c d : UInt8} (h : d ≠ c) : hasSuf (r ++ [d]) c = false := by simp [hasSuf, h]
theorem hasSuf_nil (c : UInt8) : hasSuf [] c = false := rfl
theorem t_HasSuffix (K : PureK) (l : List UInt8) (c : UInt8) (hl : l.length ≤ 1000000000) : Ri_stringslite_HasSuffix K (bs l) (bs [c]) = some (bv (hasSuf l c)) := by
  unfold Ri_stringslite_HasSuffix
  simp only [bs_size, List.length_singleton]
  rcases suf_cases l c with ⟨r, rfl⟩ | rfl | ⟨r, d, rfl, hd⟩
  · rw [hasSuf_yes]
    simp only [List.length_append, List.length_singleton] at hl ⊢
    rw [br_yesD (by omega), w64_id (by omega) (by omega), br_yesD (by omega), br_yesD (by omega), cut_from, strEq_bs, show (((r.length + 1 : Nat) : Int) - ((1 : Nat) : Int)).toNat = r.length by omega, List.drop_left' rfl]
    simp [optK_s, asBool_v]
  · rfl
  · rw [hasSuf_no r hd]
    simp only [List.length_append, List.length_singleton] at hl ⊢
    rw [br_yesD (by omega), w64_id (by omega) (by omega), br_yesD (by omega), br_yesD (by omega), cut_from, strEq_bs, show (((r.length + 1 : Nat) : Int) - ((1 : Nat) : Int)).toNat = r.length by omega, List.drop_left' rfl]
    simp [optK_s, asBool_v, hd]
noncomputable abbrev E_HasSuffix := callF X f_i_stringslite_HasSuffix encSu (fun a => a.1.length ≤ 1000000000) fun a => bv (hasSuf a.1 a.2)
theorem k_HasSuffix {T : Tab} (hT : tabK T f_i_stringslite_HasSuffix = E_HasSuffix) (l : List UInt8) (c : UInt8) (hl : l.length ≤ 1000000000) : tabK T f_i_stringslite_HasSuffix [sv (bs l), sv (bs [c])] = some (bv (hasSuf l c)) := by
  rw [hT]
  exact callF_eq (fun a h => pci_stringslite_HasSuffix ok_nil (t_HasSuffix _ a.1 a.2 h)) (fun a b h => by rw [encSu_inj h]) (a := (l, c)) hl
noncomputable def tbHS : Tab := [(f_i_stringslite_HasSuffix, E_HasSuffix)]
theorem tbHS_ok : TabOk X tbHS := tab_cons callQ_ok tab_nil
theorem cutLast (l : List UInt8) (h : l ≠ []) : cutStr (bs l) none (some (((l.length : Nat) : Int) - ((1 : Nat) : Int))) = bs l.dropLast := by
  rw [cut_to, List.dropLast_eq_take, show (((l.length : Nat) : Int) - ((1 : Nat) : Int)).toNat = l.length - 1 by omega]
theorem hasSuf_ne {l : List UInt8} {c : UInt8} (h : hasSuf l c = true) : l ≠ [] := by rintro rfl; cases h
theorem t_iTrimSuffix (l : List UInt8) (c : UInt8) (hl : l.length ≤ 1000000000) : Ri_stringslite_TrimSuffix (tabK tbHS) (bs l) (bs [c]) = some (sv (bs (cutSuf l c))) := by
  unfold Ri_stringslite_TrimSuffix cutSuf
  rw [k_HasSuffix rfl l c hl]
  simp only [optK_s, asBool_v, bs_size, List.length_singleton]
  cases h : hasSuf l c with
  | false => rfl
  | true =>
    have hp := List.length_pos_iff.2 (hasSuf_ne h)
    rw [br_t, w64_id (by omega) (by omega), br_yesD (by omega), br_yesD (by omega), cutLast l (hasSuf_ne h)]
theorem t_iCutSuffix (l : List UInt8) (c : UInt8) (hl : l.length ≤ 1000000000) : Ri_stringslite_CutSuffix (tabK tbHS) (bs l) (bs [c]) = some (.tup [sv (bs (cutSuf l c)), bv (hasSuf l c)]) := by
  unfold Ri_stringslite_CutSuffix cutSuf
  rw [k_HasSuffix rfl l c hl]
  simp only [optK_s, asBool_v, bs_size, List.length_singleton]
  cases h : hasSuf l c with
  | false => rfl
  | true =>
    have hp := List.length_pos_iff.2 (hasSuf_ne h)
    rw [Bool.not_true, br_f, w64_id (by omega) (by omega), br_yesD (by omega), br_yesD (by omega), cutLast l (hasSuf_ne h)]
noncomputable abbrev E_iTrimSuffix := callF X f_i_stringslite_TrimSuffix encSu (fun a => a.1.length ≤ 1000000000) fun a => sv (bs (cutSuf a.1 a.2))
noncomputable abbrev E_iCutSuffix := callF X f_i_stringslite_CutSuffix encSu (fun a => a.1.length ≤ 1000000000) fun a => .tup [sv (bs (cutSuf a.1 a.2)), bv (hasSuf a.1 a.2)]
noncomputable def tbTS : Tab := [(f_i_stringslite_TrimSuffix, E_iTrimSuffix), (f_i_stringslite_CutSuffix, E_iCutSuffix)]
theorem tbTS_ok : TabOk X tbTS := tab_cons callQ_ok (tab_cons callQ_ok tab_nil)
theorem k_iTrimSuffix (l : List UInt8) (c : UInt8) (hl : l.length ≤ 1000000000) : tabK tbTS f_i_stringslite_TrimSuffix [sv (bs l), sv (bs [c])] = some (sv (bs (cutSuf l c))) :=
  callF_eq (g := f_i_stringslite_TrimSuffix) (enc := encSu) (P := fun a => a.1.length ≤ 1000000000) (f := fun a => sv (bs (cutSuf a.1 a.2))) (fun a h => pci_stringslite_TrimSuffix (tab_ok _ tbHS_ok) (t_iTrimSuffix a.1 a.2 h)) (fun a b h => by rw [encSu_inj h]) (a := (l, c)) hl
theorem k_iCutSuffix (l : List UInt8) (c : UInt8) (hl : l.length ≤ 1000000000) : tabK tbTS f_i_stringslite_CutSuffix [sv (bs l), sv (bs [c])] = some (.tup [sv (bs (cutSuf l c)), bv (hasSuf l c)]) :=
  callF_eq (g := f_i_stringslite_CutSuffix) (enc := encSu) (P := fun a => a.1.length ≤ 1000000000) (f := fun a => .tup [sv (bs (cutSuf a.1 a.2)), bv (hasSuf a.1 a.2)]) (fun a h => pci_stringslite_CutSuffix (tab_ok _ tbHS_ok) (t_iCutSuffix a.1 a.2 h)) (fun a b h => by rw [encSu_inj h]) (a := (l, c)) hl
noncomputable abbrev E_TrimSuffix := callF X f_strings_TrimSuffix encSu (fun a => a.1.length ≤ 1000000000) fun a => sv (bs (cutSuf a.1 a.2))
noncomputable abbrev E_CutSuffix := callF X f_strings_CutSuffix encSu (fun a => a.1.length ≤ 1000000000) fun a => .tup [sv (bs (cutSuf a.1 a.2)), bv (hasSuf a.1 a.2)]
theorem k_TrimSuffix {T : Tab} (hT : tabK T f_strings_TrimSuffix = E_TrimSuffix) (l : List UInt8) (c : UInt8) (hl : l.length ≤ 1000000000) : tabK T f_strings_TrimSuffix [sv (bs l), sv (bs [c])] = some (sv (bs (cutSuf l c))) := by
  rw [hT]
  exact callF_eq (fun a h => pcstrings_TrimSuffix (tab_ok _ tbTS_ok) (by unfold Rstrings_TrimSuffix; rw [k_iTrimSuffix a.1 a.2 h]; rfl)) (fun a b h => by rw [encSu_inj h]) (a := (l, c)) hl
theorem k_CutSuffix {T : Tab} (hT : tabK T f_strings_CutSuffix = E_CutSuffix) (l : List UInt8) (c : UInt8) (hl : l.length ≤ 1000000000) : tabK T f_strings_CutSuffix [sv (bs l), sv (bs [c])] = some (.tup [sv (bs (cutSuf l c)), bv (hasSuf l c)]) := by
  rw [hT]
  exact callF_eq (fun a h => pcstrings_CutSuffix (tab_ok _ tbTS_ok) (by unfold Rstrings_CutSuffix; rw [k_iCutSuffix a.1 a.2 h]; rfl)) (fun a b h => by rw [encSu_inj h]) (a := (l, c)) hl

/-! strings.LastIndexByte -/
def lastGo (c : UInt8) : List UInt8 → Int
  | [] => -1
  | x :: xs => if x = c then xs.length else lastGo c xs
def lastIdx (c : UInt8) (l : List UInt8) : Int := lastGo c l.reverse
theorem lastGo_le (c : UInt8) : ∀ l, -1 ≤ lastGo c l ∧ lastGo c l < l.length
  | [] => by simp [lastGo]
  | x :: xs => by
    have := lastGo_le c xs
    unfold lastGo
    split <;> simp <;> omega
abbrev encLI (a : List UInt8 × UInt8 × Nat) : Si_bytealg_LastIndexByteString_0 := .s0 (bs a.1) a.2.1.toNat ((a.2.2 : Int) - 1)
def outLI (a : List UInt8 × UInt8 × Nat) : Oi_bytealg_LastIndexByteString_0 := if lastIdx a.2.1 (a.1.take a.2.2) < 0 then .x1 else .x0 (lastIdx a.2.1 (a.1.take a.2.2))
theorem encLI_inj {a b : List UInt8 × UInt8 × Nat} (h : encLI a = encLI b) : a = b := by
  obtain ⟨l, c, i⟩ := a
  obtain ⟨l', c', i'⟩ := b
  simp [encLI, bs_inj_iff] at h
  obtain ⟨rfl, h1, h2⟩ := h
  have : i = i' := by omega
  rw [u8_inj h1, this]
theorem l_LI (K : PureK) {a : List UInt8 × UInt8 × Nat} (h : a.2.2 ≤ a.1.length ∧ a.1.length ≤ 1000000000) : loopF (Ri_bytealg_LastIndexByteString_0 K some) encLI (fun a => a.2.2 ≤ a.1.length ∧ a.1.length ≤ 1000000000) outLI (encLI a) = some (outLI a) := by
  refine loopF_eq (fun a => a.2.2) ?_ (fun a b h => by rw [encLI_inj h]) h
  rintro ⟨l, c, i⟩ rec ⟨h1, h2⟩ hrec
  simp only [encLI, Ri_bytealg_LastIndexByteString_0, outLI] at h1 h2 hrec ⊢
  cases i with
  | zero => rfl
  | succ i =>
    have hi : i < l.length := h1
    rw [show (((i + 1 : Nat) : Int) - 1) = (i : Int) by omega, br_yesD (by omega), br_yesD (by omega), br_yesD (by rw [bs_size]; omega), bt_bs, List.take_succ_eq_append_getElem hi]
    simp only [lastIdx, List.reverse_append, List.reverse_singleton, List.singleton_append, lastGo, Int.toNat_natCast, List.getElem?_eq_getElem hi, Option.getD_some]
    by_cases hc : l[i] = c
    · rw [br_pos (by rw [hc]; simp), if_pos hc]
      simp only [List.length_reverse, List.length_take]
      rw [if_neg (by omega), show ((min i l.length : Nat) : Int) = (i : Int) by omega]
    · rw [br_neg (by simp; intro h; exact hc (UInt8.toNat_inj.1 (by omega))), if_neg hc, w64_id (by omega) (by omega)]
      exact hrec (l, c, i) ⟨by simp; omega, h2⟩ (by simp)
theorem pc_iLastIndex (l : List UInt8) (c : UInt8) (hl : l.length ≤ 1000000000) : PureCall X f_i_bytealg_LastIndexByteString [sv (bs l), uv c.toNat] (iv (lastIdx c l)) := by
  refine pci_bytealg_LastIndexByteString ok_nil (li_bytealg_LastIndexByteString_0 := loopF (Ri_bytealg_LastIndexByteString_0 (tabK []) some) encLI (fun a => a.2.2 ≤ a.1.length ∧ a.1.length ≤ 1000000000) outLI) loopF_ok ?_
  unfold Ri_bytealg_LastIndexByteString
  rw [bs_size, w64_id (by omega) (by omega)]
  have := l_LI (tabK []) (a := (l, c, l.length)) ⟨Nat.le_refl _, hl⟩
  simp only [encLI] at this
  rw [this]
  simp only [outLI, List.take_length, optK_s]
  have hle := lastGo_le c l.reverse
  unfold lastIdx
  split
  · rw [show lastGo c l.reverse = -1 by omega]; rfl
  · rfl
abbrev encSB (a : List UInt8 × UInt8) : List AV := [sv (bs a.1), uv a.2.toNat]
theorem encSB_inj {a b : List UInt8 × UInt8} (h : encSB a = encSB b) : a = b := by
  obtain ⟨l, c⟩ := a
  obtain ⟨l', c'⟩ := b
  simp [encSB, bs_inj_iff] at h
  obtain ⟨rfl, h⟩ := h
  rw [u8_inj h]
noncomputable abbrev E_iLastIndex := callF X f_i_bytealg_LastIndexByteString encSB (fun a => a.1.length ≤ 1000000000) fun a => iv (lastIdx a.2 a.1)
noncomputable def tbLI : Tab := [(f_i_bytealg_LastIndexByteString, E_iLastIndex)]
theorem tbLI_ok : TabOk X tbLI := tab_cons callQ_ok tab_nil
theorem k_iLastIndex (l : List UInt8) (c : UInt8) (hl : l.length ≤ 1000000000) : tabK tbLI f_i_bytealg_LastIndexByteString [sv (bs l), uv c.toNat] = some (iv (lastIdx c l)) :=
  callF_eq (g := f_i_bytealg_LastIndexByteString) (enc := encSB) (P := fun a => a.1.length ≤ 1000000000) (f := fun a => iv (lastIdx a.2 a.1)) (fun a h => pc_iLastIndex a.1 a.2 h) (fun a b h => by rw [encSB_inj h]) (a := (l, c)) hl
noncomputable abbrev E_LastIndex := callF X f_strings_LastIndexByte encSB (fun a => a.1.length ≤ 1000000000) fun a => iv (lastIdx a.2 a.1)
theorem k_LastIndex {T : Tab} (hT : tabK T f_strings_LastIndexByte = E_LastIndex) (l : List UInt8) (c : UInt8) (hl : l.length ≤ 1000000000) : tabK T f_strings_LastIndexByte [sv (bs l), uv c.toNat] = some (iv (lastIdx c l)) := by
  rw [hT]
  exact callF_eq (fun a h => pcstrings_LastIndexByte (tab_ok _ tbLI_ok) (by unfold Rstrings_LastIndexByte; rw [k_iLastIndex a.1 a.2 h]; rfl)) (fun a b h => by rw [encSB_inj h]) (a := (l, c)) hl

/-! slices.Concat of two lists of texts -/
abbrev encCc (a : Bool × List (List UInt8) × List (List UInt8)) : List AV := [.lst 1 false [.lst 1 a.1 (svL a.2.1), .lst 1 false (svL a.2.2)]]
theorem encCc_inj {a b : Bool × List (List UInt8) × List (List UInt8)} (h : encCc a = encCc b) : a = b := by
  obtain ⟨n, l, m⟩ := a
  obtain ⟨n', l', m'⟩ := b
  simp [encCc, svL_inj_iff] at h
  obtain ⟨⟨rfl, rfl⟩, rfl⟩ := h
  rfl
theorem t_Concat (K : PureK) (n : Bool) (l m : List (List UInt8)) (hm : 1 ≤ m.length) (hl : l.length + m.length ≤ 1000000) :
    Rslices_Concat_string_string K (fuelRec (Rslices_Concat_string_string_0 K some) 4) (fuelRec (Rslices_Concat_string_string_1 K some) 4) (fuelRec (Rslices_Concat_string_string_1b K some) 4) false [.lst 1 n (svL l), .lst 1 false (svL m)] = some (.lst 1 false (svL (l ++ m))) := by
  have h0 : fuelRec (Rslices_Concat_string_string_0 K some) 4 (.s0 false [.lst 1 n (svL l), .lst 1 false (svL m)] 0 false [.lst 1 n (svL l), .lst 1 false (svL m)] 2 0) = some (.x0 false [.lst 1 n (svL l), .lst 1 false (svL m)] ((l.length : Int) + m.length)) := by
    simp only [fuelRec, Rslices_Concat_string_string_0, List.length_cons, List.length_nil]
    rw [br_yesD (by omega), br_yesD (by omega), br_yesD (by omega)]
    simp only [show (0 : Int).toNat = 0 from rfl, List.getElem?_cons_zero, optK_s, asLst_v, svL_len]
    rw [w64_id (n := 0 + (l.length : Int)) (by omega) (by omega), br_noD (by omega), w64_id (n := 0 + 1) (by omega) (by omega), br_yesD (by omega), br_yesD (by omega), br_yesD (by omega)]
    simp only [show (0 + 1 : Int).toNat = 1 from rfl, List.getElem?_cons_succ, List.getElem?_cons_zero, optK_s, asLst_v, svL_len]
    rw [w64_id (n := 0 + (l.length : Int) + (m.length : Int)) (by omega) (by omega), br_noD (by omega), w64_id (n := 0 + 1 + 1) (by omega) (by omega), br_noD (by omega)]
    simp
  have h1 : ∀ z, fuelRec (Rslices_Concat_string_string_1 K some) 4 (.s0 false [.lst 1 n (svL l), .lst 1 false (svL m)] 2 0 z) = some (.x1 (svL (l ++ m))) := by
    intro z
    simp only [fuelRec, Rslices_Concat_string_string_1, List.length_cons, List.length_nil]
    rw [br_yesD (by omega), br_yesD (by omega), br_yesD (by omega)]
    simp only [show (0 : Int).toNat = 0 from rfl, List.getElem?_cons_zero, optK_s, asLst_v, svL_len]
    rw [br_pos (lenOks_of (by omega) (by omega)), w64_id (n := 0 + 1) (by omega) (by omega), br_yesD (by omega), br_yesD (by omega), br_yesD (by omega)]
    simp only [show (0 + 1 : Int).toNat = 1 from rfl, List.getElem?_cons_succ, List.getElem?_cons_zero, optK_s, asLst_v, svL_len, List.nil_append]
    rw [br_pos (lenOks_of (by omega) (by omega)), w64_id (n := 0 + 1 + 1) (by omega) (by omega), br_noD (by omega), svL_app]
  unfold Rslices_Concat_string_string
  simp only [List.length_cons, List.length_nil]
  rw [show (((0 + 1 + 1 : Nat) : Int)) = 2 from rfl, h0]
  simp only [optK_s, Oslices_Concat_string_string_0.k, List.length_cons, List.length_nil]
  rw [br_noD (by omega), w64_id (by omega) (by omega), br_yesD (by omega), br_yesD (by omega), br_pos (lenOks_of (by omega) (by omega)), show (((0 + 1 + 1 : Nat) : Int)) = 2 from rfl, h1]
  rfl
noncomputable abbrev E_Concat := callF X f_slices_Concat_string_string encCc (fun a => 1 ≤ a.2.2.length ∧ a.2.1.length + a.2.2.length ≤ 1000000) fun a => .lst 1 false (svL (a.2.1 ++ a.2.2))
theorem k_Concat {T : Tab} (hT : tabK T f_slices_Concat_string_string = E_Concat) (n : Bool) (l m : List (List UInt8)) (hm : 1 ≤ m.length) (hl : l.length + m.length ≤ 1000000) :
    tabK T f_slices_Concat_string_string [.lst 1 false [.lst 1 n (svL l), .lst 1 false (svL m)]] = some (.lst 1 false (svL (l ++ m))) := by
  rw [hT]
  exact callF_eq (fun a h => pcslices_Concat_string_string ok_nil (fun s o h => ⟨_, h⟩) (fun s o h => ⟨_, h⟩) (fun s o h => ⟨_, h⟩) (t_Concat _ a.1 a.2.1 a.2.2 h.1 h.2)) (fun a b h => by rw [encCc_inj h]) (a := (n, l, m)) ⟨hm, hl⟩
end Go.Proofs.YtphbfkncimifoaaDoor
