import Derived.Test.YtckbjhmiopjlkaaDoorStrI
import Derived.Test.YtckbjhmiopjlkaaDoorUParse
import Derived.Test.YtckbjhmiopjlkaaDoorShelf
import Derived.Lib.ParseIntBCases
set_option linter.unusedVariables false
set_option linter.unusedSimpArgs false
set_option maxRecDepth 100000
namespace Go.Proofs.YtckbjhmiopjlkaaDoor
/- uids.number, strings.Cut; what Parse answers. -/
open Go Go.Ab Go.RowKit

/-- A number as the library reads it: its value, and whether it is one. -/
def puV (l : List UInt8) : Nat × Bool := match Lib.parseUintB 32 l with
  | .ok u => (u, true)
  | .range => (4294967295, false)
  | _ => (0, false)
/-- A part's number. -/
def numV (l : List UInt8) : Int × Bool :=
  if l = [42] then (0, true) else
  ((puV l).1, (puV l).2 && (decide (0 < (puV l).1) && (l.headD 0 != 48 && l.headD 0 != 43)))

theorem puV_le (l : List UInt8) : (puV l).1 ≤ 4294967295 := by
  unfold puV
  split
  · rename_i u hu
    have := Lib.parseUintB_le hu
    simpa using this
  · exact Nat.le_refl _
  · exact Nat.zero_le _
theorem puV_ne {l : List UInt8} (h : (puV l).2 = true) : l ≠ [] := by
  rintro rfl
  cases h

theorem byte_ne (a c : UInt8) : ((a.toNat : Int) != (c.toNat : Int)) = (a != c) := by
  by_cases h : a = c
  · subst h; simp
  · have h2 : (a.toNat : Int) ≠ c.toNat := fun e => h (UInt8.toNat_inj.1 (by omega))
    rw [bne_iff_ne.2 h2, bne_iff_ne.2 h]
def errV (b : Bool) (l : List UInt8) : AV := match b with
  | true => .v .nilIface
  | false => .iface 88 (.pl (.agg [sv (bs [80, 97, 114, 115, 101, 85, 105, 110, 116]), sv (bs l), .junk]) 0)
def errI (l : List UInt8) : AV := match Lib.parseUintB 32 l with
  | .ok _ => .v .nilIface
  | .range => .iface 86 (iv 1)
  | _ => .iface 86 (iv 2)

/-- A text's copy. -/
def e_Clone : List AV → Option AV
  | [.v (.string s)] => br (decide (s.size ≤ 2000)) (some (sv s)) none
  | _ => none
theorem e_Clone_ok (xs : List AV) (v : AV) (h : e_Clone xs = some v) : PureCall X f_i_stringslite_Clone xs v := by
  unfold e_Clone at h
  split at h
  · rename_i s
    obtain ⟨hs, h⟩ := br_yes h
    have hs : s.size ≤ 2000 := of_decide_eq_true hs
    cases h
    obtain ⟨c, hc⟩ := Option.isSome_iff_exists.1 (show Tryd.f75.body.isSome = true from rfl)
    refine pure_of_calls (X := X) Tryd.func75 hc (by kernel_rfl) rfl fun st hok hH cs hr => ?_
    obtain rfl := rels_v1 hr
    refine (AnyPu.stringslite_Clone { Tryd.laysPu14 with } s st.w (by omega)).mono ?_
    rintro e w' ⟨rfl, hb⟩
    exact ⟨_, rfl, Past.of_below hb, .v _ rfl⟩
  · cases h
/-- The library's inner ParseUint. -/
def e_iPU : List AV → Option AV
  | [.v (.string s), .v (.int .i64 10), .v (.int .i64 32)] => br (decide (s.size ≤ 2000)) (some (.tup [.v (.int .u64 (puV s.data.toList).1), errI s.data.toList])) none
  | _ => none
theorem e_iPU_ok (xs : List AV) (v : AV) (h : e_iPU xs = some v) : PureCall X f_i_strconv_ParseUint xs v := by
  unfold e_iPU at h
  split at h
  · rename_i s
    obtain ⟨hs, h⟩ := br_yes h
    have hs : s.size ≤ 2000 := of_decide_eq_true hs
    cases h
    obtain ⟨c, hc⟩ := Option.isSome_iff_exists.1 (show Tryd.f54.body.isSome = true from rfl)
    refine pure_of_calls (X := X) Tryd.func54 hc (by kernel_rfl) ?_ fun st hok hH cs hr => ?_
    · unfold errI
      split <;> rfl
    obtain rfl := rels_v3 hr
    refine (AnyPu.internal_strconv_ParseUint_10_at32 { Tryd.laysPu14 with } s (by omega) st.w).mono ?_
    rintro e w' ⟨rfl, hw⟩
    refine ⟨_, rfl, ?_, ?_⟩
    · rcases hw with rfl | rfl
      · exact Past.refl _ _
      · exact Past.of_below (Lib.bytesWorld_below _ _ _)
    · unfold puV errI
      cases hu : Lib.parseUintB 32 s.data.toList with
      | ok u => exact rel_tup_two (.v _ rfl) (.v _ rfl)
      | range => exact rel_tup_two (.v _ rfl) (.iface _ _ _ (.v _ rfl))
      | _ => exact rel_tup_two (.v _ rfl) (.iface _ _ _ (.v _ rfl))
  · cases h
def tbCl : Tab := [(f_i_stringslite_Clone, e_Clone)]
theorem tbCl_ok : TabOk X tbCl := tab_cons e_Clone_ok tab_nil
theorem kCl {l : List UInt8} (h : l.length ≤ 2000) : tabK tbCl f_i_stringslite_Clone [sv (bs l)] = some (sv (bs l)) := by
  show br (decide ((bs l).size ≤ 2000)) (some (sv (bs l))) none = _
  rw [bs_size, br_yesD h]
def e_err : List AV → Option AV
  | [.v (.string f), .v (.string s)] => br (decide (s.size ≤ 2000)) (some (.pl (.agg [sv f, sv s, .junk]) 0)) none
  | _ => none
theorem e_syn_ok (xs : List AV) (v : AV) (h : e_err xs = some v) : PureCall X f_strconv_syntaxError xs v := by
  unfold e_err at h
  split at h
  · rename_i f s
    obtain ⟨hs, h⟩ := br_yes h
    have hs : s.size ≤ 2000 := of_decide_eq_true hs
    cases h
    obtain ⟨l, rfl⟩ := exists_bs s
    rw [bs_size] at hs
    refine pcstrconv_syntaxError (tab_ok _ tbCl_ok) ?_
    unfold Rstrconv_syntaxError
    rw [kCl hs]
    rfl
  · cases h
theorem e_rng_ok (xs : List AV) (v : AV) (h : e_err xs = some v) : PureCall X f_strconv_rangeError xs v := by
  unfold e_err at h
  split at h
  · rename_i f s
    obtain ⟨hs, h⟩ := br_yes h
    have hs : s.size ≤ 2000 := of_decide_eq_true hs
    cases h
    obtain ⟨l, rfl⟩ := exists_bs s
    rw [bs_size] at hs
    refine pcstrconv_rangeError (tab_ok _ tbCl_ok) ?_
    unfold Rstrconv_rangeError
    rw [kCl hs]
    rfl
  · cases h
def tbEr : Tab := [(f_strconv_syntaxError, e_err), (f_strconv_rangeError, e_err)]
theorem tbEr_ok : TabOk X tbEr := tab_cons e_syn_ok (tab_cons e_rng_ok tab_nil)
def e_toErr : List AV → Option AV
  | [.v (.string f), .v (.string s), .v (.int .i64 b), .v (.int .i64 z), .iface 86 (.v (.int .i64 e))] => br (decide (s.size ≤ 2000) && (e == 1 || e == 2)) (some (.iface 88 (.pl (.agg [sv f, sv s, .junk]) 0))) none
  | _ => none
theorem kEr {f : ByteArray} {l : List UInt8} (h : l.length ≤ 2000) : tabK tbEr f_strconv_syntaxError [sv f, sv (bs l)] = some (.pl (.agg [sv f, sv (bs l), .junk]) 0) := by
  show br (decide ((bs l).size ≤ 2000)) (some (AV.pl (.agg [sv f, sv (bs l), .junk]) 0)) none = _
  rw [bs_size, br_yesD h]
theorem kEr2 {f : ByteArray} {l : List UInt8} (h : l.length ≤ 2000) : tabK tbEr f_strconv_rangeError [sv f, sv (bs l)] = some (.pl (.agg [sv f, sv (bs l), .junk]) 0) := by
  show br (decide ((bs l).size ≤ 2000)) (some (AV.pl (.agg [sv f, sv (bs l), .junk]) 0)) none = _
  rw [bs_size, br_yesD h]
theorem e_toErr_ok (xs : List AV) (v : AV) (h : e_toErr xs = some v) : PureCall X f_strconv_toError xs v := by
  unfold e_toErr at h
  split at h
  · rename_i f s b z e
    obtain ⟨hs, h⟩ := br_yes h
    simp only [Bool.and_eq_true, decide_eq_true_eq, Bool.or_eq_true, beq_iff_eq] at hs
    cases h
    obtain ⟨l, rfl⟩ := exists_bs s
    rw [bs_size] at hs
    refine pcstrconv_toError__1 (tab_ok _ tbEr_ok) ?_
    unfold Rstrconv_toError__1
    rcases hs.2 with rfl | rfl
    · rw [kEr2 hs.1]; rfl
    · rw [kEr hs.1]; rfl
  · cases h
def tbPu0 : Tab := [(f_i_strconv_ParseUint, e_iPU), (f_strconv_toError, e_toErr)]
theorem tbPu0_ok : TabOk X tbPu0 := tab_cons e_iPU_ok (tab_cons e_toErr_ok tab_nil)
def e_PU : List AV → Option AV
  | [.v (.string s), .v (.int .i64 10), .v (.int .i64 32)] => br (decide (s.size ≤ 2000)) (some (.tup [.v (.int .u64 (puV s.data.toList).1), errV (puV s.data.toList).2 s.data.toList])) none
  | _ => none
theorem kI {l : List UInt8} (h : l.length ≤ 2000) : tabK tbPu0 f_i_strconv_ParseUint [sv (bs l), iv 10, iv 32] = some (.tup [.v (.int .u64 (puV l).1), errI l]) := by
  show br (decide ((bs l).size ≤ 2000)) (some (AV.tup [.v (.int .u64 (puV (bs l).data.toList).1), errI (bs l).data.toList])) none = _
  rw [bs_size, br_yesD h, bs_list]
theorem kTo {l : List UInt8} {e : Int} (h : l.length ≤ 2000) (he : e = 1 ∨ e = 2) : tabK tbPu0 f_strconv_toError [sv { data := #[80, 97, 114, 115, 101, 85, 105, 110, 116] }, sv (bs l), iv 10, iv 32, .iface 86 (iv e)] = some (errV false l) := by
  show br (decide ((bs l).size ≤ 2000) && (e == 1 || e == 2)) (some (errV false l)) none = _
  rw [bs_size, br_pos]
  simp only [Bool.and_eq_true, decide_eq_true_eq, Bool.or_eq_true, beq_iff_eq]
  exact ⟨h, he⟩
theorem t_PU (l : List UInt8) (h : l.length ≤ 2000) : Rstrconv_ParseUint (tabK tbPu0) (bs l) 10 32 = some (.tup [.v (.int .u64 (puV l).1), errV (puV l).2 l]) := by
  unfold Rstrconv_ParseUint
  rw [kI h]
  simp only [optK_s]
  unfold puV errI
  cases hu : Lib.parseUintB 32 l with
  | ok u => rfl
  | range =>
    simp only []
    rw [asTup_v _ 2 rfl]
    simp only [List.getD_cons_zero, List.getD_cons_succ, asInt_v]
    simp only [asErr, kTo h (.inl rfl), optK_s]
    rfl
  | _ =>
    simp only []
    rw [asTup_v _ 2 rfl]
    simp only [List.getD_cons_zero, List.getD_cons_succ, asInt_v]
    simp only [asErr, kTo h (.inr rfl), optK_s]
    rfl
theorem e_PU_ok (xs : List AV) (v : AV) (h : e_PU xs = some v) : PureCall X f_strconv_ParseUint xs v := by
  unfold e_PU at h
  split at h
  · rename_i s
    obtain ⟨hs, h⟩ := br_yes h
    have hs : s.size ≤ 2000 := of_decide_eq_true hs
    cases h
    obtain ⟨l, rfl⟩ := exists_bs s
    rw [bs_size] at hs
    rw [bs_list]
    exact pcstrconv_ParseUint (tab_ok _ tbPu0_ok) (t_PU l hs)
  · cases h

def tbPU : Tab := [(f_strconv_ParseUint, e_PU)]
theorem tbPU_ok : TabOk X tbPU := tab_cons e_PU_ok tab_nil
theorem kPU {l : List UInt8} (h : l.length ≤ 2000) : tabK tbPU f_strconv_ParseUint [sv (bs l), iv 10, iv 32] = some (.tup [.v (.int .u64 (puV l).1), errV (puV l).2 l]) := by
  show br (decide ((bs l).size ≤ 2000)) (some (AV.tup [.v (.int .u64 (puV (bs l).data.toList).1), errV (puV (bs l).data.toList).2 (bs l).data.toList])) none = _
  rw [bs_size, br_yesD h, bs_list]
theorem t_number (l : List UInt8) (h : l.length ≤ 2000) : Ruids_number (tabK tbPU) (bs l) = some (.tup [iv (numV l).1, bv (numV l).2]) := by
  unfold Ruids_number numV
  rw [show ({ data := #[42] } : ByteArray) = bs [42] from rfl, strEq_bs]
  by_cases h42 : l = [42]
  · subst h42
    rfl
  · rw [br_neg (by simpa using h42), if_neg h42, kPU h]
    have hle := puV_le l
    have hne := puV_ne (l := l)
    generalize puV l = pr at hle hne ⊢
    obtain ⟨u, b⟩ := pr
    simp only [] at hle hne ⊢
    simp only [optK_s]
    rw [asTup_v _ 2 rfl]
    simp only [List.getD_cons_zero, List.getD_cons_succ, asInt_v]
    rw [w64_id (n := (u : Int)) (by omega) (by omega)]
    cases b with
    | false =>
      rw [br_pos (show refFree (AV.tup [AV.v (Value.int IntKind.u64 (u : Int)), errV false l]) = true from rfl)]
      show some (AV.tup [iv u, bv false]) = _
      rfl
    | true =>
      rw [br_pos (show refFree (AV.tup [AV.v (Value.int IntKind.u64 (u : Int)), errV true l]) = true from rfl)]
      show br (decide ((u : Int) > 0)) _ _ = _
      by_cases hu : 0 < u
      · rw [br_yesD (by omega), decide_eq_true hu]
        cases l with
        | nil => exact absurd rfl (hne rfl)
        | cons a l =>
          have hsz : 0 < ((bs (a :: l)).size : Int) := by rw [bs_size]; simp
          have hbt : bt (bs (a :: l)) 0 = (a.toNat : Int) := by rw [bt_bs]; rfl
          rw [br_yesD hsz, br_yesD hsz, hbt]
          have h48 : ((a.toNat : Int) != 48) = (a != 48) := byte_ne a 48
          have h43 : ((a.toNat : Int) != 43) = (a != 43) := byte_ne a 43
          rw [h48, h43]
          simp only [List.headD_cons, Bool.true_and]
          cases (a != 48) <;> rfl
      · rw [br_noD (by omega), decide_eq_false hu]
        rfl
def e_number : List AV → Option AV
  | [.v (.string s)] => br (decide (s.size ≤ 2000)) (some (.tup [iv (numV s.data.toList).1, bv (numV s.data.toList).2])) none
  | _ => none
theorem e_number_ok (xs : List AV) (v : AV) (h : e_number xs = some v) : PureCall X f_uids_number xs v := by
  unfold e_number at h
  split at h
  · rename_i s
    obtain ⟨hs, h⟩ := br_yes h
    cases h
    obtain ⟨l, rfl⟩ := exists_bs s
    have hs : (bs l).size ≤ 2000 := of_decide_eq_true hs
    rw [bs_size] at hs
    rw [bs_list]
    exact pcuids_number (tab_ok _ tbPU_ok) (t_number l hs)
  · cases h

theorem t_sCut (l : List UInt8) (c : UInt8) (h : l.length ≤ 2000) : Ri_stringslite_Cut (tabK tbS2) (bs l) (bs [c]) = some (.tup [sv (bs (cutAt c l).1), sv (bs (cutAt c l).2.1), bv (cutAt c l).2.2]) := by
  unfold Ri_stringslite_Cut cutAt
  rw [show tabK tbS2 f_i_stringslite_Index [sv (bs l), sv (bs [c])] = some (iv (firstIdx (bs l) c)) by
    show e_Index [sv (bs l), sv (bs [c])] = _
    simp [e_Index, bs]]
  simp only [optK_s, asInt_v]
  by_cases hm : c ∈ l
  · obtain ⟨a, b, rfl, ha⟩ := mem_split hm
    rw [firstIdx_at ha, splitL_at c b ha]
    have hlen : ((bs (a ++ c :: b)).size : Int) = a.length + 1 + b.length := by rw [bs_size]; simp; omega
    have h1 : ((bs [c]).size : Int) = 1 := by rw [bs_size]; rfl
    rw [hlen, h1]
    simp at h
    rw [w64_id (n := (a.length : Int) + 1) (by omega) (by omega), br_yesD (by omega), br_yesD (by omega), br_yesD (by omega), br_yesD (by omega), br_yesD (by omega), cut_to, cut_from]
    obtain ⟨p, ps, hps⟩ : ∃ p ps, splitL c b = p :: ps := by
      cases hb : splitL c b with
      | nil => exact absurd hb (splitL_ne c b)
      | cons p ps => exact ⟨p, ps, rfl⟩
    rw [hps]
    simp only []
    have e1 : (a ++ c :: b).take ((a.length : Int)).toNat = a := by simp
    have e2 : ((a.length : Int) + 1).toNat = a.length + 1 := by omega
    rw [e1, e2]
  · rw [firstIdx_no hm, splitL_no c hm, br_noD (by decide)]
    rfl
def e_sCut : List AV → Option AV
  | [.v (.string s), .v (.string t)] => match t.data.toList with
    | [c] => br (decide (s.size ≤ 2000)) (some (.tup [sv (bs (cutAt c s.data.toList).1), sv (bs (cutAt c s.data.toList).2.1), bv (cutAt c s.data.toList).2.2])) none
    | _ => none
  | _ => none
theorem e_sCut_ok (xs : List AV) (v : AV) (h : e_sCut xs = some v) : PureCall X f_i_stringslite_Cut xs v := by
  unfold e_sCut at h
  split at h
  · rename_i s t
    split at h
    · rename_i c hc
      obtain ⟨hs, h⟩ := br_yes h
      cases h
      obtain ⟨l, rfl⟩ := exists_bs s
      obtain ⟨m, rfl⟩ := exists_bs t
      rw [bs_list] at hc
      subst hc
      have hs : (bs l).size ≤ 2000 := of_decide_eq_true hs
      rw [bs_size] at hs
      rw [bs_list]
      exact pci_stringslite_Cut (tab_ok _ tbS2_ok) (t_sCut l c hs)
    · cases h
  · cases h
def tbCut : Tab := [(f_i_stringslite_Cut, e_sCut)]
theorem tbCut_ok : TabOk X tbCut := tab_cons e_sCut_ok tab_nil
theorem e_Cut_ok (xs : List AV) (v : AV) (h : e_sCut xs = some v) : PureCall X f_strings_Cut xs v := by
  have h0 := h
  unfold e_sCut at h
  split at h
  · rename_i s t
    split at h
    · rename_i c hc
      obtain ⟨hs, h⟩ := br_yes h
      cases h
      refine pcstrings_Cut (tab_ok _ tbCut_ok) ?_
      unfold Rstrings_Cut
      rw [show tabK tbCut f_i_stringslite_Cut [.v (.string s), .v (.string t)] = _ from h0]
      simp only [optK_s]
      rw [asTup_v _ 3 rfl]
      rfl
    · cases h
  · cases h
def tbP : Tab := [(f_strings_Cut, e_sCut), (f_uids_number, e_number), (f_strings_Index, e_Index)]
theorem tbP_ok : TabOk X tbP := tab_cons e_Cut_ok (tab_cons e_number_ok (tab_cons e_Index_ok tab_nil))
theorem told : Told (tabK tbP) numV := by
  refine ⟨tab_ok _ tbP_ok, fun p hp => ?_, fun p hp => ?_, fun p hp => ?_⟩
  · show br (decide ((bs p).size ≤ 2000)) (some (AV.tup [sv (bs (cutAt 58 (bs p).data.toList).1), sv (bs (cutAt 58 (bs p).data.toList).2.1), bv (cutAt 58 (bs p).data.toList).2.2])) none = _
    rw [bs_size, br_yesD hp, bs_list]
  · show br (decide ((bs p).size ≤ 2000)) (some (AV.tup [iv (numV (bs p).data.toList).1, bv (numV (bs p).data.toList).2])) none = _
    rw [bs_size, br_yesD hp, bs_list]
  · show e_Index [sv (bs p), sv (bs [44])] = _
    simp [e_Index, bs]
theorem pc_Parse (l : List UInt8) : PureCall X f_uids_Parse [sv (bs l)] (parseV numV l) := parse_pure told l
end Go.Proofs.YtckbjhmiopjlkaaDoor
