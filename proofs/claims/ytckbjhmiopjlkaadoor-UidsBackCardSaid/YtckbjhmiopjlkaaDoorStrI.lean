import Derived.Test.YtckbjhmiopjlkaaDoorToldU1
import Derived.Test.YtckbjhmiopjlkaaDoorAbStr
set_option linter.unusedVariables false
set_option linter.unusedSimpArgs false
set_option maxRecDepth 100000
namespace Go.Proofs.YtckbjhmiopjlkaaDoor
open Go Go.Ab

def tbS0 : Tab := [(f_i_bytealg_IndexByteString, xIndexByteString)]
theorem tbS0_ok : TabOk X tbS0 := tab_cons (fun xs v h => ovr_ok _ _ rfl xs v h) tab_nil



theorem t_IndexByte (l : List UInt8) (c : UInt8) : Ri_stringslite_IndexByte (tabK tbS0) (bs l) (c.toNat : Int) = some (iv (firstIdx (bs l) c)) := by
  unfold Ri_stringslite_IndexByte
  rw [show tabK tbS0 f_i_bytealg_IndexByteString [sv (bs l), uv (c.toNat : Int)] = some (iv (firstIdx (bs l) ((c.toNat : Int)).toNat.toUInt8)) from rfl, toU8]
  simp only [optK_s, asInt_v]
def e_IndexByte : List AV → Option AV
  | [.v (.string s), .v (.int .u8 c)] => br (decide (0 ≤ c ∧ c < 256)) (some (iv (firstIdx s c.toNat.toUInt8))) none
  | _ => none
theorem e_IndexByte_ok (xs : List AV) (v : AV) (h : e_IndexByte xs = some v) : PureCall X f_i_stringslite_IndexByte xs v := by
  unfold e_IndexByte at h
  split at h
  · rename_i s c
    obtain ⟨h1, h2⟩ := br_yes h
    cases h2
    have h1 := of_decide_eq_true h1
    obtain ⟨l, rfl⟩ := exists_bs s
    have hc : c = ((c.toNat.toUInt8).toNat : Int) := by
      have : c.toNat < 256 := by omega
      rw [Nat.toUInt8, UInt8.toNat_ofNat']
      omega
    have := t_IndexByte l c.toNat.toUInt8
    rw [← hc] at this
    exact pci_stringslite_IndexByte (tab_ok _ tbS0_ok) this
  · cases h
def tbS1 : Tab := (f_i_stringslite_IndexByte, e_IndexByte) :: tbS0
theorem tbS1_ok : TabOk X tbS1 := tab_cons e_IndexByte_ok tbS0_ok

theorem k_IndexByte (l : List UInt8) (c : UInt8) : tabK tbS1 f_i_stringslite_IndexByte [sv (bs l), uv (c.toNat : Int)] = some (iv (firstIdx (bs l) c)) := by
  have hc : 0 ≤ (c.toNat : Int) ∧ (c.toNat : Int) < 256 := ⟨by omega, by have := c.toNat_lt; omega⟩
  show br (decide (0 ≤ (c.toNat : Int) ∧ (c.toNat : Int) < 256)) (some (iv (firstIdx (bs l) ((c.toNat : Int)).toNat.toUInt8))) none = _
  rw [br_yesD hc, toU8]
theorem t_Index1 (l : List UInt8) (c : UInt8) : Ri_stringslite_Index (tabK tbS1) (bs l) (bs [c]) = some (iv (firstIdx (bs l) c)) := by
  unfold Ri_stringslite_Index
  rw [show (bs [c]).size = 1 from rfl, strEq_bs, bt_bs]
  simp only [List.getElem?_cons_zero, Option.getD_some]
  rw [k_IndexByte]
  cases h : ([c] == l) with
  | true =>
    have : l = [c] := (beq_iff_eq.1 h).symm
    subst this
    have : firstIdx (bs ([] ++ c :: [])) c = ([] : List UInt8).length := firstIdx_at (by simp)
    rw [show ([] : List UInt8) ++ [c] = [c] from rfl] at this
    rw [this]; rfl
  | false => simp only [optK_s, asInt_v, asBool_v]; rfl
def e_Index : List AV → Option AV
  | [.v (.string s), .v (.string p)] => match p.data.toList with
    | [c] => some (iv (firstIdx s c))
    | _ => none
  | _ => none
theorem e_sIndex_ok (xs : List AV) (v : AV) (h : e_Index xs = some v) : PureCall X f_i_stringslite_Index xs v := by
  unfold e_Index at h
  split at h
  · rename_i s p
    split at h
    · rename_i c hc
      cases h
      obtain ⟨l, rfl⟩ := exists_bs s
      have hp : p = bs [c] := by rw [← hc, bs_eta]
      subst hp
      exact pci_stringslite_Index (tab_ok _ tbS1_ok) (t_Index1 l c)
    · cases h
  · cases h
def tbS2 : Tab := (f_i_stringslite_Index, e_Index) :: tbS1
theorem tbS2_ok : TabOk X tbS2 := tab_cons e_sIndex_ok tbS1_ok
theorem t_Index (l : List UInt8) (c : UInt8) : Rstrings_Index (tabK tbS2) (bs l) (bs [c]) = some (iv (firstIdx (bs l) c)) := by
  unfold Rstrings_Index
  rw [show tabK tbS2 f_i_stringslite_Index [sv (bs l), sv (bs [c])] = some (iv (firstIdx (bs l) c)) from rfl]
  simp only [optK_s, asInt_v]
theorem e_Index_ok (xs : List AV) (v : AV) (h : e_Index xs = some v) : PureCall X f_strings_Index xs v := by
  unfold e_Index at h
  split at h
  · rename_i s p
    split at h
    · rename_i c hc
      cases h
      obtain ⟨l, rfl⟩ := exists_bs s
      have hp : p = bs [c] := by rw [← hc, bs_eta]
      subst hp
      exact pcstrings_Index (tab_ok _ tbS2_ok) (t_Index l c)
    · cases h
  · cases h
def tbS3 : Tab := (f_strings_Index, e_Index) :: tbS2
theorem tbS3_ok : TabOk X tbS3 := tab_cons e_Index_ok tbS2_ok

end Go.Proofs.YtckbjhmiopjlkaaDoor
