/- Printing, and the law DateTexts, plain. -/
import Derived.Test.YtmiffikcnkgcpaaGreatDoorDtFour
set_option linter.unusedVariables false
set_option linter.unusedSimpArgs false
set_option maxRecDepth 100000
namespace Go.Proofs.YtmiffikcnkgcpaaGreatDoor
open Go Go.Ab


def domL (d : Int) : List UInt8 := if d < 10 then [32, digU d] else twoL d
/-- A time's text. -/
def printL (t : Int) : List UInt8 :=
  domL (civI (t / 86400)).2.2 ++ [45] ++ nameAt ((civI (t / 86400)).2.1 - 1) ++ [45] ++ twoL ((civI (t / 86400)).1 / 100) ++ twoL ((civI (t / 86400)).1 % 100) ++ [32] ++ twoL (t % 86400 / 3600) ++ [58] ++ twoL (t % 86400 / 60 % 60) ++ [58] ++ twoL (t % 86400 % 60) ++ [32, 43, 48, 48, 48, 48]
def tbR : Tab := [(f_date_Day, e_Day), (f_date_Civil, e16), (f_date_two, e_two)]
theorem tbR_ok : TabOk X tbR := tab_cons e_Day_ok (tab_cons e16_ok (tab_cons e_two_ok tab_nil))
theorem kR_Day {t : Int} (h : t ≤ 9000000000000000000) : tabK tbR f_date_Day [iv t] = some (iv (dayI t)) := br_yesD h
theorem kR_Civil {d : Int} : tabK tbR f_date_Civil [iv d] = some (triple (civI d)) := rfl
theorem kR_two {n : Int} (h : 0 ≤ n ∧ n ≤ 1000000) : tabK tbR f_date_two [iv n] = some (sv (bs (twoL n))) := br_yesD h
theorem gl_names_get {i : Int} (h0 : 0 ≤ i) (h : i < 12) : gl_date_names[0 + i.toNat * 1]? = some (sv (bs (nameAt i))) := by
  rw [Nat.zero_add]; exact namesV_get h0 h
theorem twoL_len (n : Int) : (twoL n).length = 2 := rfl
theorem lit1 (a : UInt8) : ({ data := #[a] } : ByteArray) = bs [a] := rfl
theorem lit6 : ({ data := #[32, 43, 48, 48, 48, 48] } : ByteArray) = bs [32, 43, 48, 48, 48, 48] := rfl

theorem t_Print (t : Int) (hc : 0 ≤ t → t ≤ 253402300799 → 1 ≤ (civI (t / 86400)).2.1 ∧ (civI (t / 86400)).2.1 ≤ 12 ∧ 1 ≤ (civI (t / 86400)).2.2 ∧ (civI (t / 86400)).2.2 ≤ 31 ∧ 1970 ≤ (civI (t / 86400)).1 ∧ (civI (t / 86400)).1 ≤ 9999) :
    Rdate_Print (tabK tbR) t = some (if t < 0 ∨ t > 253402300799 then .tup [sv (bs []), iv 15] else .tup [sv (bs (printL t)), iv 0]) := by
  unfold Rdate_Print
  by_cases h0 : t < 0
  · rw [br_yesD h0, if_pos (.inl h0)]; rfl
  · rw [br_noD h0]
    simp only [optK_s, asBool_v]
    by_cases h1 : t > 253402300799
    · rw [br_yesD h1, if_pos (.inr h1)]; rfl
    · rw [br_noD h1, if_neg (by omega), kR_Day (by omega)]
      have hd : dayI t = t / 86400 := if_neg h0
      have hc := hc (by omega) (by omega)
      unfold printL
      rw [hd]
      simp only [optK_s, asInt_v]
      rw [kR_Civil]
      generalize civI (t / 86400) = ymd at hc ⊢
      obtain ⟨y, m, d⟩ := ymd
      simp only [] at hc ⊢
      unfold triple
      simp only [optK_s]
      rw [asTup_v _ 3 rfl]
      simp only [List.getD_cons_zero, List.getD_cons_succ, asInt_v]
      rw [kR_two (n := d) (by omega)]
      simp only [optK_s, asStr_v, lit1, lit6]
      have hn := nameAt_ok (i := m - 1) (by omega) (by omega)
      rw [tdivP (y := y) (by omega), tmodP (y := y) (by omega), tmodP (y := t) (by omega), tdivP (y := t % 86400) (by omega), tdivP (y := t % 86400) (by omega), tmodP (y := t % 86400) (by omega),
        w64_id (n := m - 1) (by omega) (by omega), w64_id (n := y / 100) (by omega) (by omega), w64_id (n := t % 86400 / 3600) (by omega) (by omega), w64_id (n := t % 86400 / 60) (by omega) (by omega), tmodP (by omega),
        gl_names_get (by omega) (by omega), kR_two (n := y / 100) (by omega), kR_two (n := y % 100) (by omega), kR_two (n := t % 86400 / 3600) (by omega), kR_two (n := t % 86400 / 60 % 60) (by omega), kR_two (n := t % 86400 % 60) (by omega)]
      simp only [optK_s, asStr_v, cut_from, cat_bs, bs_size]
      have hm : ∀ n : Nat, n ≤ 1000 → n.ble maxStr = true := by
        intro n h
        rw [Nat.ble_eq]; exact Nat.le_trans h (by decide)
      unfold domL
      by_cases h10 : d < 10
      · rw [br_yesD h10, if_pos h10]
        rw [show List.drop (1 : Int).toNat (twoL d) = [digU d] from rfl]
        have e1 : ∀ {x : Option AV} {n : Nat}, n ≤ 1000 → br (n.ble maxStr) x none = x := fun h => br_pos (hm _ h)
        rw [br_yesD (by rw [twoL_len]; decide)]
        repeat (first | rw [e1 (by simp [twoL_len, hn.2])] | rw [br_yesD (p := 0 ≤ m - 1) (by omega)] | rw [br_yesD (p := m - 1 < 12) (by omega)])
        simp only [List.cons_append, List.nil_append]
      · rw [br_noD h10, if_neg h10]
        have e1 : ∀ {x : Option AV} {n : Nat}, n ≤ 1000 → br (n.ble maxStr) x none = x := fun h => br_pos (hm _ h)
        repeat (first | rw [e1 (by simp [twoL_len, hn.2])] | rw [br_yesD (p := 0 ≤ m - 1) (by omega)] | rw [br_yesD (p := m - 1 < 12) (by omega)])
theorem civI_spec {day : Int} (h0 : 0 ≤ day) (h1 : day ≤ 2932896) : Civil day (civI day).1 (civI day).2.1 (civI day).2.2 ∧ 1970 ≤ (civI day).1 ∧ (civI day).1 ≤ 9999 := by
  unfold civI
  rw [if_neg (by omega)]
  refine ⟨civP_spec h0 h1, ?_⟩
  obtain ⟨a, b, c⟩ := start_ok h0 h1
  have hy := yearGo_spec day _ (1970 + day / 366) rfl a b c h1
  exact ⟨hy.1, hy.2.1⟩


theorem Civil_there {day y m d : Int} (h : Civil day y m d) (hy : 0 ≤ y) (hy2 : y ≤ 9999) : thereI y m d = true := by
  obtain ⟨_, _, _, _, _, _⟩ := h
  unfold thereI
  rw [decide_eq_true_eq]
  omega

theorem civ_ok {t : Int} (h0 : 0 ≤ t) (h1 : t ≤ 253402300799) : 1 ≤ (civI (t / 86400)).2.1 ∧ (civI (t / 86400)).2.1 ≤ 12 ∧ 1 ≤ (civI (t / 86400)).2.2 ∧ (civI (t / 86400)).2.2 ≤ 31 ∧ 1970 ≤ (civI (t / 86400)).1 ∧ (civI (t / 86400)).1 ≤ 9999 := by
  obtain ⟨hc, hy, hy2⟩ := civI_spec (day := t / 86400) (by omega) (by omega)
  have ht := there_day (Civil_there hc (by omega) hy2)
  exact ⟨hc.m1, hc.m2, ht.2.2.2.2.1, ht.2.2.2.2.2, hy, hy2⟩
abbrev encT (t : Int) : List AV := [iv t]
theorem encT_inj {a b : Int} (h : encT a = encT b) : a = b := by simpa [encT] using h
def printA (t : Int) : AV := if t < 0 ∨ t > 253402300799 then .tup [sv (bs []), iv 15] else .tup [sv (bs (printL t)), iv 0]
noncomputable abbrev E_Print := callF X f_date_Print encT (fun _ => True) printA
theorem k_Print {T : Tab} (hT : tabK T f_date_Print = E_Print) (t : Int) : tabK T f_date_Print [iv t] = some (printA t) := by
  rw [hT]
  exact callF_eq (enc := encT) (P := fun _ => True) (f := printA) (fun t _ => pcdate_Print (tab_ok _ tbR_ok) (t_Print t fun h0 h1 => civ_ok h0 h1)) (fun x y h => by rw [encT_inj h]) trivial
theorem t_Day' (K : PureK) (t : Int) (h : t < 9223372036854775808) : Rdate_Day K t = some (iv (dayI t)) := by
  unfold Rdate_Day dayI
  by_cases h1 : t < 0
  · rw [br_yesD h1, if_pos h1]
  · rw [br_noD h1, if_neg h1, tdivP (by omega), w64_id (by omega) (by omega)]
theorem t_DayR (K : PureK) (t : Int) (h : t < 9223372036854775808) : Rref07_Day K t = some (iv (dayI t)) := by
  unfold Rref07_Day dayI
  by_cases h1 : t < 0
  · rw [br_yesD h1, if_pos h1]
  · rw [br_noD h1, if_neg h1, tdivP (by omega), w64_id (by omega) (by omega)]
noncomputable abbrev E_Day := callF X f_date_Day encT (fun t => t < 9223372036854775808) fun t => iv (dayI t)
theorem k_Day {T : Tab} (hT : tabK T f_date_Day = E_Day) (t : Int) (h : t < 9223372036854775808) : tabK T f_date_Day [iv t] = some (iv (dayI t)) := by
  rw [hT]
  exact callF_eq (enc := encT) (P := fun t => t < 9223372036854775808) (f := fun t => iv (dayI t)) (fun t h => pcdate_Day ok_nil (t_Day' _ t h)) (fun x y h => by rw [encT_inj h]) h
noncomputable abbrev E_DayR := callF X f_ref07_Day encT (fun t => t < 9223372036854775808) fun t => iv (dayI t)
theorem k_DayR {T : Tab} (hT : tabK T f_ref07_Day = E_DayR) (t : Int) (h : t < 9223372036854775808) : tabK T f_ref07_Day [iv t] = some (iv (dayI t)) := by
  rw [hT]
  exact callF_eq (enc := encT) (P := fun t => t < 9223372036854775808) (f := fun t => iv (dayI t)) (fun t h => pcref07_Day ok_nil (t_DayR _ t h)) (fun x y h => by rw [encT_inj h]) h

/-- So many digits of a number. -/
def digR (n : Int) : Nat → List UInt8
  | 0 => []
  | k + 1 => digR (n / 10) k ++ [digU n]
theorem digR_len : ∀ (k : Nat) (n : Int), (digR n k).length = k
  | 0, _ => rfl
  | k + 1, n => by simp [digR, digR_len k]
abbrev encDg (k : Nat) (n : Int) : List AV := [iv n, iv (k : Int)]
noncomputable abbrev E_dg (k : Nat) := callF X f_ref07_digits (encDg k) (fun n => 0 ≤ n ∧ n ≤ 1000000) fun n => sv (bs (digR n k))
theorem dig_cut {n : Int} (h : 0 ≤ n) (h2 : n < 10) : (([48, 49, 50, 51, 52, 53, 54, 55, 56, 57] : List UInt8).take (n + 1).toNat).drop n.toNat = [UInt8.ofNat (48 + n).toNat] := by
  have : n = 0 ∨ n = 1 ∨ n = 2 ∨ n = 3 ∨ n = 4 ∨ n = 5 ∨ n = 6 ∨ n = 7 ∨ n = 8 ∨ n = 9 := by omega
  rcases this with rfl | rfl | rfl | rfl | rfl | rfl | rfl | rfl | rfl | rfl <;> decide
theorem p_dg : ∀ (k : Nat), k ≤ 4 → ∀ n : Int, 0 ≤ n ∧ n ≤ 1000000 → PureCall X f_ref07_digits (encDg k n) (sv (bs (digR n k)))
  | 0, _, n, h => pcref07_digits ok_nil (by unfold Rref07_digits; rfl)
  | k + 1, hk, n, h => by
    have ih := p_dg k (by omega)
    have hT : TabOk X [(f_ref07_digits, E_dg k)] := tab_cons callQ_ok tab_nil
    refine pcref07_digits (tab_ok _ hT) ?_
    unfold Rref07_digits
    have hk0 : (((k + 1 : Nat) : Int) == 0) = false := by simp; omega
    rw [hk0, br_f, tdivP h.1, tmodP h.1, w64_id (n := n / 10) (by omega) (by omega), w64_id (n := ((k + 1 : Nat) : Int) - 1) (by omega) (by omega), show ((k + 1 : Nat) : Int) - 1 = (k : Int) by omega]
    have hc : tabK [(f_ref07_digits, E_dg k)] f_ref07_digits [iv (n / 10), iv (k : Int)] = some (sv (bs (digR (n / 10) k))) :=
      callF_eq (enc := encDg k) (P := fun n => 0 ≤ n ∧ n ≤ 1000000) (f := fun n => sv (bs (digR n k))) ih (fun x y h => by
        have : x = y := by simpa [encDg] using h
        rw [this]) (a := n / 10) ⟨by omega, by omega⟩
    rw [hc]
    simp only [optK_s, asStr_v]
    rw [w64_id (n := n % 10 + 1) (by omega) (by omega), br_yesD (by omega), br_yesD (by omega), br_yesD (by omega)]
    have hcut : cutStr ({ data := #[48, 49, 50, 51, 52, 53, 54, 55, 56, 57] } : ByteArray) (some (n % 10)) (some (n % 10 + 1)) = bs [digU n] := by
      rw [show ({ data := #[48, 49, 50, 51, 52, 53, 54, 55, 56, 57] } : ByteArray) = bs [48, 49, 50, 51, 52, 53, 54, 55, 56, 57] from rfl, cut_both, dig_cut (by omega) (by omega)]
      rfl
    rw [hcut, bs_size, bs_size, digR_len, br_pos (maxStr_ok (by simp; omega)), cat_bs]
    rfl
theorem k_dg {T : Tab} {e : List AV → Option AV} (hT : tabK T f_ref07_digits = e) : True := trivial
/-- The digits of one, two and four. -/
noncomputable def e_dg (xs : List AV) : Option AV := match xs with
  | [.v (.int .i64 n), .v (.int .i64 1)] => E_dg 1 [iv n, iv 1]
  | [.v (.int .i64 n), .v (.int .i64 2)] => E_dg 2 [iv n, iv 2]
  | [.v (.int .i64 n), .v (.int .i64 4)] => E_dg 4 [iv n, iv 4]
  | _ => none
theorem e_dg_ok (xs : List AV) (v : AV) (h : e_dg xs = some v) : PureCall X f_ref07_digits xs v := by
  unfold e_dg at h
  split at h
  · exact callQ_ok _ _ h
  · exact callQ_ok _ _ h
  · exact callQ_ok _ _ h
  · cases h
theorem k_dgk {k : Nat} (hk : k ≤ 4) (n : Int) (h : 0 ≤ n ∧ n ≤ 1000000) : E_dg k [iv n, iv (k : Int)] = some (sv (bs (digR n k))) :=
  callF_eq (enc := encDg k) (P := fun n => 0 ≤ n ∧ n ≤ 1000000) (f := fun n => sv (bs (digR n k))) (fun n h => p_dg k hk n h) (fun x y h => by
    have : x = y := by simpa [encDg] using h
    rw [this]) h
theorem digU_eq {a b : Int} (h : a % 10 = b % 10) : digU a = digU b := by unfold digU; rw [h]
theorem dig2 (n : Int) : digR n 2 = twoL n := rfl
theorem dig4 {n : Int} (h : 0 ≤ n) : digR n 4 = twoL (n / 100) ++ twoL (n % 100) := by
  show [digU (n / 10 / 10 / 10), digU (n / 10 / 10), digU (n / 10), digU n] = [digU (n / 100 / 10), digU (n / 100), digU (n % 100 / 10), digU (n % 100)]
  rw [digU_eq (a := n / 10 / 10 / 10) (b := n / 100 / 10) (by omega), digU_eq (a := n / 10 / 10) (b := n / 100) (by omega), digU_eq (a := n / 10) (b := n % 100 / 10) (by omega), digU_eq (a := n) (b := n % 100) (by omega)]
noncomputable def tbPr2 : Tab := [(f_ref07_Civil, e16), (f_ref07_digits, e_dg), (f_ref07_months, e_mons)]
theorem tbPr2_ok : TabOk X tbPr2 := tab_cons e17_ok (tab_cons e_dg_ok (tab_cons e_mons_ok tab_nil))
theorem kd1 {n : Int} (h : 0 ≤ n ∧ n ≤ 1000000) : tabK tbPr2 f_ref07_digits [iv n, iv 1] = some (sv (bs [digU n])) := k_dgk (k := 1) (by decide) n h
theorem kd2 {n : Int} (h : 0 ≤ n ∧ n ≤ 1000000) : tabK tbPr2 f_ref07_digits [iv n, iv 2] = some (sv (bs (twoL n))) := k_dgk (k := 2) (by decide) n h
theorem kd4 {n : Int} (h : 0 ≤ n ∧ n ≤ 1000000) : tabK tbPr2 f_ref07_digits [iv n, iv 4] = some (sv (bs (digR n 4))) := k_dgk (k := 4) (by decide) n h
set_option maxHeartbeats 2000000 in
theorem t_PrintR (t : Int) : Rref07_Print (tabK tbPr2) t = some (printA t) := by
  unfold Rref07_Print printA
  by_cases h0 : t < 0
  · rw [br_yesD h0, if_pos (.inl h0)]; rfl
  · rw [br_noD h0]
    simp only [optK_s, asBool_v]
    by_cases h1 : t > 253402300799
    · rw [br_yesD h1, if_pos (.inr h1)]; rfl
    · rw [br_noD h1, if_neg (by omega)]
      have hc := civ_ok (t := t) (by omega) (by omega)
      unfold printL
      rw [tdivP (y := t) (by omega), w64_id (n := t / 86400) (by omega) (by omega), show tabK tbPr2 f_ref07_Civil [iv (t / 86400)] = some (triple (civI (t / 86400))) from rfl]
      generalize civI (t / 86400) = ymd at hc ⊢
      obtain ⟨y, m, d⟩ := ymd
      simp only [] at hc ⊢
      unfold triple
      simp only [optK_s]
      rw [asTup_v _ 3 rfl]
      simp only [List.getD_cons_zero, List.getD_cons_succ, asInt_v]
      rw [tmodP (y := t) (n := 86400) (by omega), tmodP (y := t) (n := 3600) (by omega), tmodP (y := t) (n := 60) (by omega), tdivP (y := t % 86400) (by omega), tdivP (y := t % 3600) (by omega),
        w64_id (n := t % 86400 / 3600) (by omega) (by omega), w64_id (n := t % 3600 / 60) (by omega) (by omega), w64_id (n := 3 * m) (by omega) (by omega), w64_id (n := 3 * m - 3) (by omega) (by omega)]
      have hy4 := dig4 (n := y) (by omega)
      rw [kd2 (n := d) (by omega), kd4 (n := y) (by omega), kd2 (n := t % 86400 / 3600) (by omega), kd2 (n := t % 3600 / 60) (by omega), kd2 (n := t % 60) (by omega), show tabK tbPr2 f_ref07_months [] = some (sv (bs monL)) from rfl, hy4]
      have hn := nameAt_ok (i := m - 1) (by omega) (by omega)
      have hcut : cutStr (bs monL) (some (3 * m - 3)) (some (3 * m)) = bs (nameAt (m - 1)) := by
        rw [cut_both, ← mon_at (i := m - 1) (by omega) (by omega), show 3 * (m - 1 + 1) = 3 * m by omega]
      have e60 : t % 86400 / 60 % 60 = t % 3600 / 60 := by omega
      have e61 : t % 86400 % 60 = t % 60 := by omega
      rw [e60, e61]
      have hms : (((bs monL).size : Nat) : Int) = 36 := rfl
      have l1 : ∀ a : UInt8, ({ data := #[a] } : ByteArray) = bs [a] := fun a => rfl
      have l6 : ({ data := #[32, 43, 48, 48, 48, 48] } : ByteArray) = bs [32, 43, 48, 48, 48, 48] := rfl
      simp only [optK_s, asStr_v, hcut, hms, l1, l6, cat_bs, bs_size]
      have hm : ∀ {x : Option AV} {n : Nat}, n ≤ 1000 → br (n.ble maxStr) x none = x := fun {x n} h => br_pos (maxStr_ok (by omega))
      unfold domL
      by_cases h10 : d < 10
      · rw [br_yesD h10, if_pos h10, kd1 (n := d) (by omega)]
        simp only [optK_s, asStr_v, cat_bs, bs_size]
        repeat (first | rw [hm (by simp [twoL_len, hn.2])] | rw [br_yesD (p := 0 ≤ 3 * m - 3) (by omega)] | rw [br_yesD (p := 3 * m - 3 ≤ 3 * m) (by omega)] | rw [br_yesD (p := 3 * m ≤ ((monL.length : Nat) : Int)) (by rw [show ((monL.length : Nat) : Int) = 36 from rfl]; omega)])
        simp only [List.cons_append, List.nil_append, List.append_assoc]
      · rw [br_noD h10, if_neg h10]
        repeat (first | rw [hm (by simp [twoL_len, hn.2])] | rw [br_yesD (p := 0 ≤ 3 * m - 3) (by omega)] | rw [br_yesD (p := 3 * m - 3 ≤ 3 * m) (by omega)] | rw [br_yesD (p := 3 * m ≤ ((monL.length : Nat) : Int)) (by rw [show ((monL.length : Nat) : Int) = 36 from rfl]; omega)])
        simp only [List.cons_append, List.nil_append, List.append_assoc]
noncomputable abbrev E_PrintR := callF X f_ref07_Print encT (fun _ => True) printA
theorem k_PrintR {T : Tab} (hT : tabK T f_ref07_Print = E_PrintR) (t : Int) : tabK T f_ref07_Print [iv t] = some (printA t) := by
  rw [hT]
  exact callF_eq (enc := encT) (P := fun _ => True) (f := printA) (fun t _ => pcref07_Print (tab_ok _ tbPr2_ok) (t_PrintR t)) (fun x y h => by rw [encT_inj h]) trivial


theorem numB_len {l : List UInt8} {lo hi : Int} (h : (numB l lo hi).2 = true) : lo ≤ (l.length : Int) ∧ (l.length : Int) ≤ hi := by
  unfold numB at h
  split at h
  · cases h
  · omega
theorem calFrom_some : ∀ (k : Nat) (go : Bool) (mon : List UInt8) (y d i n : Int), calFrom go mon y d k i = some n → go = true ∧ mon.length = 3
  | 0, _, _, _, _, _, _, h => by cases h
  | k + 1, go, mon, y, d, i, n, h => by
    unfold calFrom at h
    split at h
    · rename_i hb
      simp only [Bool.and_eq_true, decide_eq_true_eq] at hb
      exact ⟨hb.1.1.1, hb.1.1.2⟩
    · exact calFrom_some k go mon y d (i + 1) n h
theorem calB_len {a m y : List UInt8} (h : (calB a m y).2 = true) : a.length ≤ 2 ∧ m.length = 3 ∧ y.length = 4 := by
  unfold calB at h
  split at h
  · rename_i n hn
    obtain ⟨h1, h2⟩ := calFrom_some _ _ _ _ _ _ _ hn
    simp only [Bool.and_eq_true] at h1
    have e1 := numB_len h1.1
    have e2 := numB_len h1.2
    omega
  · cases h
theorem short_long {l : List UInt8} (h : l.length > 11) : shortB l = (0, 3) := by
  unfold shortB
  have hj := splitL_join 45 l
  split
  · rename_i a m y hs
    rw [hs] at hj
    cases hc : (calB a m y).2 with
    | false => rw [if_pos (.inl rfl)]
    | true =>
      obtain ⟨h1, h2, h3⟩ := calB_len hc
      have := congrArg List.length hj
      simp [List.intersperse] at this
      omega
  · rfl
theorem t_ShortR (l : List UInt8) : Rref07_Short (tabK tbV) (bs l) = some (pairII (shortB l)) := by
  unfold Rref07_Short
  rw [bs_size]
  by_cases h11 : l.length > 11
  · rw [br_yesD (by omega), short_long h11]; rfl
  · rw [br_noD (by omega)]
    have hk : tabK tbV f_ref07_split [sv (bs l), uv 45] = some (.lst 1 false (svs (splitL 45 l))) := k_split (T := tbV) rfl l 45 (by omega)
    rw [hk]
    simp only [optK_s, asLst_v, svs_length]
    unfold shortB
    have hall : ∀ p ∈ splitL 45 l, p.length ≤ 1000000 := by
      intro p hp
      have hj := splitL_join 45 l
      have h1 : p.length ≤ ((splitL 45 l).intersperse [45]).flatten.length := by
        have : ∀ (L : List (List UInt8)), p ∈ L → p.length ≤ L.flatten.length := by
          intro L hL
          induction L with
          | nil => cases hL
          | cons a L ih =>
            simp only [List.flatten_cons, List.length_append]
            rcases List.mem_cons.1 hL with rfl | h
            · omega
            · have := ih h; omega
        exact this _ (mem_intersperse hp)
      rw [hj] at h1
      omega
    generalize splitL 45 l = ps at hall
    by_cases h3 : ps.length = 3
    · match ps, h3, hall with
      | [a, m, y], _, hall =>
        rw [br_neg (by rfl)]
        simp only [svs, List.map_cons, List.map_nil, List.length_cons, List.length_nil, List.getElem?_cons_zero, List.getElem?_cons_succ, optK_s, asStr_v]
        rw [br_yesD (by decide), br_yesD (by decide), br_yesD (by decide), k_ymd (T := tbV) rfl _ _ _ (hall m (by simp))]
        generalize calB a m y = c
        obtain ⟨c, ok⟩ := c
        simp only [optK_s, pairIB]
        rw [asTup_v _ 2 rfl]
        simp only [List.getD_cons_zero, List.getD_cons_succ, asInt_v, asBool_v]
        cases ok with
        | false => rfl
        | true =>
          simp only [Bool.not_true, br_f, optK_s, asBool_v]
          by_cases h0 : c < 0
          · rw [decide_eq_true h0, if_pos (.inr h0)]; rfl
          · rw [decide_eq_false h0, if_neg (by simp; omega)]; rfl
    · rw [br_pos (by simp; omega)]
      match ps, h3 with
      | [], _ => rfl
      | [a], _ => rfl
      | [a, b], _ => rfl
      | [a, b, c], h => exact absurd rfl h
      | a :: b :: c :: d :: e, _ => rfl
noncomputable abbrev E_ShortR := callF X f_ref07_Short encB1 (fun _ => True) fun l => pairII (shortB l)
theorem k_ShortR {T : Tab} (hT : tabK T f_ref07_Short = E_ShortR) (l : List UInt8) : tabK T f_ref07_Short [sv (bs l)] = some (pairII (shortB l)) := by
  rw [hT]
  exact callF_eq (enc := encB1) (P := fun _ => True) (f := fun l => pairII (shortB l)) (fun l _ => pcref07_Short (tab_ok _ tbV_ok) (t_ShortR l)) (fun x y h => by rw [encB1_inj h]) trivial

noncomputable def tbLw : Tab := [(f_date_Parse, E_Parse), (f_ref07_Parse, E_ParseR), (f_date_Short, E_Short), (f_ref07_Short, E_ShortR), (f_date_Mail, E_Mail), (f_ref07_Mail, E_MailR), (f_date_Print, E_Print), (f_ref07_Print, E_PrintR), (f_date_Day, E_Day), (f_ref07_Day, E_DayR), (f_date_Civil, e16)]
theorem tbLw_ok : TabOk X tbLw := tab_cons callQ_ok (tab_cons callQ_ok (tab_cons callQ_ok (tab_cons callQ_ok (tab_cons callQ_ok (tab_cons callQ_ok (tab_cons callQ_ok (tab_cons callQ_ok (tab_cons callQ_ok (tab_cons callQ_ok (tab_cons e16_ok tab_nil))))))))))
theorem al1 : parseB [49, 55, 45, 74, 117, 108, 45, 49, 57, 57, 54, 32, 48, 50, 58, 52, 52, 58, 50, 53, 32, 45, 48, 55, 48, 48] = (837596665, 0) := by decide +kernel
theorem al2 : printL 837596665 = [49, 55, 45, 74, 117, 108, 45, 49, 57, 57, 54, 32, 48, 57, 58, 52, 52, 58, 50, 53, 32, 43, 48, 48, 48, 48] := by decide +kernel
theorem al3 : shortB [49, 45, 70, 101, 98, 45, 49, 57, 57, 52] = (8797, 0) := by decide +kernel
theorem al4 : mailB [87, 101, 100, 44, 32, 49, 55, 32, 74, 117, 108, 32, 49, 57, 57, 54, 32, 48, 50, 58, 50, 51, 58, 50, 53, 32, 45, 48, 55, 48, 48, 32, 40, 80, 68, 84, 41] = (9694, 0) := by decide +kernel
theorem al5 : civI 9694 = (1996, 7, 17) := by decide +kernel
theorem t_alive : Rlaw07_alive (tabK tbLw) = some (bv true) := by
  unfold Rlaw07_alive
  have k1 := k_Parse (T := tbLw) rfl [49, 55, 45, 74, 117, 108, 45, 49, 57, 57, 54, 32, 48, 50, 58, 52, 52, 58, 50, 53, 32, 45, 48, 55, 48, 48]
  have k2 := k_Print (T := tbLw) rfl 837596665
  have k3 := k_Short (T := tbLw) rfl [49, 45, 70, 101, 98, 45, 49, 57, 57, 52] (by decide)
  have k4 := k_Mail (T := tbLw) rfl [87, 101, 100, 44, 32, 49, 55, 32, 74, 117, 108, 32, 49, 57, 57, 54, 32, 48, 50, 58, 50, 51, 58, 50, 53, 32, 45, 48, 55, 48, 48, 32, 40, 80, 68, 84, 41]
  rw [al1] at k1
  rw [al3] at k3
  rw [al4] at k4
  unfold printA at k2
  rw [if_neg (by decide), al2] at k2
  have k1' : tabK tbLw f_date_Parse [sv { data := #[49, 55, 45, 74, 117, 108, 45, 49, 57, 57, 54, 32, 48, 50, 58, 52, 52, 58, 50, 53, 32, 45, 48, 55, 48, 48] }] = some (.tup [iv 837596665, iv 0]) := k1
  have k3' : tabK tbLw f_date_Short [sv { data := #[49, 45, 70, 101, 98, 45, 49, 57, 57, 52] }] = some (.tup [iv 8797, iv 0]) := k3
  have k4' : tabK tbLw f_date_Mail [sv { data := #[87, 101, 100, 44, 32, 49, 55, 32, 74, 117, 108, 32, 49, 57, 57, 54, 32, 48, 50, 58, 50, 51, 58, 50, 53, 32, 45, 48, 55, 48, 48, 32, 40, 80, 68, 84, 41] }] = some (.tup [iv 9694, iv 0]) := k4
  have k5 : tabK tbLw f_date_Civil [iv 9694] = some (.tup [iv 1996, iv 7, iv 17]) := by
    show some (triple (civI 9694)) = _
    rw [al5]; rfl
  have tp : ∀ (a b : AV) (k : (Nat → AV) → Option AV), asTup (.tup [a, b]) 2 k = k (fun i => [a, b].getD i .dead) := fun a b k => asTup_v [a, b] 2 rfl k
  have tp3 : ∀ (a b c : AV) (k : (Nat → AV) → Option AV), asTup (.tup [a, b, c]) 3 k = k (fun i => [a, b, c].getD i .dead) := fun a b c k => asTup_v [a, b, c] 3 rfl k
  simp only [k1', optK_s, tp, List.getD_cons_zero, List.getD_cons_succ, asInt_v, k2, asStr_v, k3', k4', k5, tp3]
  rfl
def e_al (xs : List AV) : Option AV := match xs with
  | [] => some (bv true)
  | _ => none
theorem e_al_ok (xs : List AV) (v : AV) (h : e_al xs = some v) : PureCall X f_law07_alive xs v := by
  unfold e_al at h
  split at h
  · cases h; exact pclaw07_alive (tab_ok _ tbLw_ok) t_alive
  · cases h
noncomputable def tbLx : Tab := (f_law07_alive, e_al) :: tbLw
theorem tbLx_ok : TabOk X tbLx := tab_cons e_al_ok tbLw_ok
theorem t_Texts (l : List UInt8) (t : Int) (ht : t < 9223372036854775808) : Rlaw07_DateTexts (tabK tbLx) (bs l) t = some (bv true) := by
  unfold Rlaw07_DateTexts
  rw [show tabK tbLx f_law07_alive [] = some (bv true) from rfl, bs_size]
  simp only [optK_s, asBool_v, Bool.not_true, br_f]
  by_cases h3 : l.length > 300
  · rw [br_yesD (by omega)]
  · rw [br_noD (by omega)]
    have tp : ∀ (a b : AV) (k : (Nat → AV) → Option AV), asTup (.tup [a, b]) 2 k = k (fun i => [a, b].getD i .dead) := fun a b k => asTup_v [a, b] 2 rfl k
    obtain ⟨s, e, hpr⟩ : ∃ s e, printA t = .tup [sv (bs s), iv e] := by
      unfold printA
      split
      · exact ⟨_, _, rfl⟩
      · exact ⟨_, _, rfl⟩
    have k7 := k_Print (T := tbLx) rfl t
    have k8 := k_PrintR (T := tbLx) rfl t
    rw [hpr] at k7 k8
    rw [k_Parse (T := tbLx) rfl, k_ParseR (T := tbLx) rfl, k_Short (T := tbLx) rfl l (by omega), k_ShortR (T := tbLx) rfl, k_Mail (T := tbLx) rfl, k_MailR (T := tbLx) rfl, k7, k8]
    unfold pairII
    simp only [optK_s, tp, List.getD_cons_zero, List.getD_cons_succ, asInt_v, asStr_v, beq_self_eq_true, br_t, strEq_bs]
    rw [k_Day (T := tbLx) rfl t ht, k_DayR (T := tbLx) rfl t ht]
    simp only [optK_s, asInt_v, beq_self_eq_true, asBool_v]
end Go.Proofs.YtmiffikcnkgcpaaGreatDoor
