import Derived.Test.YtmiffikcnkgcpaaDoorDateB
import Derived.Test.YtmiffikcnkgcpaaDoorStrC
set_option linter.unusedVariables false
set_option linter.unusedSimpArgs false
set_option maxRecDepth 100000
namespace Go.Proofs.YtmiffikcnkgcpaaDoor
/- The texts of dates: numbers, two digits. -/
open Go Go.Ab

def pairIB (x : Int × Bool) : AV := .tup [iv x.1, bv x.2]
def pairII (x : Int × Int) : AV := .tup [iv x.1, iv x.2]
def numB (l : List UInt8) (lo hi : Int) : Int × Bool :=
  if (l.length : Int) < lo ∨ (l.length : Int) > hi ∨ l.all isDig = false then (0, false) else (numGo l 0, true)

def tbN : Tab := [(f_strings_Trim, e_Trim), (f_strconv_Atoi, e_iAtoi)]
theorem tbN_ok : TabOk X tbN := tab_cons e_Trim_ok (tab_cons e_Atoi_ok tab_nil)
theorem kN_Trim {l : List UInt8} (h : l.length ≤ 1000000000) : tabK tbN f_strings_Trim [sv (bs l), sv { data := #[48, 49, 50, 51, 52, 53, 54, 55, 56, 57] }] = some (sv (bs (trimB isDig l))) := by
  show br (([48, 49, 50, 51, 52, 53, 54, 55, 56, 57] : List UInt8) == digL && decide ((bs l).size ≤ 1000000000)) (some (sv (bs (trimB isDig (bs l).data.toList)))) none = _
  rw [bs_list, bs_size, br_pos (by simp [digL, h])]
theorem kN_Atoi {l : List UInt8} (h : l.all isDig = true) (h1 : 1 ≤ l.length) (h2 : l.length ≤ 18) : tabK tbN f_strconv_Atoi [sv (bs l)] = some (.tup [iv (numGo l 0), .v .nilIface]) := by
  show br ((bs l).data.toList.all isDig && decide (1 ≤ (bs l).data.toList.length) && decide ((bs l).data.toList.length ≤ 18)) (some (AV.tup [iv (numGo (bs l).data.toList 0), .v .nilIface])) none = _
  rw [bs_list, br_pos (by simp [h, h1, h2])]

theorem t_number (l : List UInt8) (lo hi : Int) (h0 : 1 ≤ lo) (h18 : hi ≤ 18) : Rdate_number (tabK tbN) (bs l) lo hi = some (pairIB (numB l lo hi)) := by
  unfold Rdate_number numB
  rw [bs_size]
  by_cases h1 : (l.length : Int) < lo
  · rw [br_yesD h1, if_pos (.inl h1)]; rfl
  · rw [br_noD h1]
    by_cases h2 : (l.length : Int) > hi
    · rw [br_yesD h2, if_pos (.inr (.inl h2))]; rfl
    · rw [br_noD h2, kN_Trim (by omega)]
      simp only [optK_s, asStr_v, asBool_v]
      rw [emp, strEq_bs, trimB_nil]
      cases h3 : l.all isDig with
      | false => rw [if_pos (.inr (.inr rfl))]; rfl
      | true =>
        rw [if_neg (by simp; omega)]
        simp only [Bool.not_true, br_f]
        rw [kN_Atoi h3 (by omega) (by omega)]
        rfl
def e_number : List AV → Option AV
  | [.v (.string s), .v (.int .i64 lo), .v (.int .i64 hi)] => br (decide (1 ≤ lo ∧ hi ≤ 18)) (some (pairIB (numB s.data.toList lo hi))) none
  | _ => none
theorem e_number_ok (xs : List AV) (v : AV) (h : e_number xs = some v) : PureCall X f_date_number xs v := by
  unfold e_number at h
  split at h
  · rename_i s lo hi
    obtain ⟨h1, h2⟩ := br_yes h
    cases h2
    obtain ⟨l, rfl⟩ := exists_bs s
    rw [bs_list]
    have h1 := of_decide_eq_true h1
    exact pcdate_number (tab_ok _ tbN_ok) (t_number l lo hi h1.1 h1.2)
  · cases h

/-- A digit's byte. -/
def digU (n : Int) : UInt8 := UInt8.ofNat (48 + n % 10).toNat
def twoL (n : Int) : List UInt8 := [digU (n / 10), digU n]
theorem t_two (K : PureK) (n : Int) (h : 0 ≤ n) (h2 : n ≤ 1000000) : Rdate_two K n = some (sv (bs (twoL n))) := by
  unfold Rdate_two twoL digU
  rw [w64_id (n := n.tdiv 10) (by rw [tdivP h]; omega) (by rw [tdivP h]; omega), tdivP h, tmodP h, tmodP (by omega), w64_id (n := 48 + n % 10) (by omega) (by omega), w64_id (n := 48 + n / 10 % 10) (by omega) (by omega),
    w8_id (by omega) (by omega), w8_id (by omega) (by omega)]
  rfl
def e_two : List AV → Option AV
  | [.v (.int .i64 n)] => br (decide (0 ≤ n ∧ n ≤ 1000000)) (some (sv (bs (twoL n)))) none
  | _ => none
theorem e_two_ok (xs : List AV) (v : AV) (h : e_two xs = some v) : PureCall X f_date_two xs v := by
  unfold e_two at h
  split at h
  · obtain ⟨h1, h2⟩ := br_yes h
    cases h2
    have h1 := of_decide_eq_true h1
    exact pcdate_two ok_nil (t_two _ _ h1.1 h1.2)
  · cases h

def dayI (t : Int) : Int := if t < 0 then -1 else t / 86400
theorem t_Day (K : PureK) (t : Int) (h : t ≤ 9000000000000000000) : Rdate_Day K t = some (iv (dayI t)) := by
  unfold Rdate_Day dayI
  by_cases h1 : t < 0
  · rw [br_yesD h1, if_pos h1]
  · rw [br_noD h1, if_neg h1, tdivP (by omega), w64_id (by omega) (by omega)]
def e_Day : List AV → Option AV
  | [.v (.int .i64 t)] => br (decide (t ≤ 9000000000000000000)) (some (iv (dayI t))) none
  | _ => none
theorem e_Day_ok (xs : List AV) (v : AV) (h : e_Day xs = some v) : PureCall X f_date_Day xs v := by
  unfold e_Day at h
  split at h
  · obtain ⟨h1, h2⟩ := br_yes h
    cases h2
    exact pcdate_Day ok_nil (t_Day _ _ (of_decide_eq_true h1))
  · cases h

/-- A zone. -/
def zoneB (l : List UInt8) : Int × Bool :=
  match l with
  | [z, a, b, c, d] =>
    let n := numB [a, b, c, d] 4 4
    if n.2 = false ∨ n.1 % 100 > 59 then (0, false) else
    if z = 43 then (n.1 / 100 * 3600 + n.1 % 100 * 60, true) else
    if z = 45 then (-(n.1 / 100 * 3600 + n.1 % 100 * 60), true) else (0, false)
  | _ => (0, false)
def tbZ : Tab := [(f_date_number, e_number)]
theorem tbZ_ok : TabOk X tbZ := tab_cons e_number_ok tab_nil
theorem kZ (l : List UInt8) : tabK tbZ f_date_number [sv (bs l), iv 4, iv 4] = some (pairIB (numB l 4 4)) := by
  show br (decide ((1 : Int) ≤ 4 ∧ (4 : Int) ≤ 18)) (some (pairIB (numB (bs l).data.toList 4 4))) none = _
  rw [bs_list]; rfl
theorem numB_range (l : List UInt8) (lo hi : Int) (h : hi ≤ 4) : 0 ≤ (numB l lo hi).1 ∧ (numB l lo hi).1 < 10000 := by
  unfold numB
  split
  · decide
  · rename_i h1
    have h3 : l.all isDig = true := by
      cases h4 : l.all isDig with
      | true => rfl
      | false => exact absurd (.inr (.inr h4)) h1
    have := numGo_range l 0 h3 (by omega)
    have hl : l.length = 0 ∨ l.length = 1 ∨ l.length = 2 ∨ l.length = 3 ∨ l.length = 4 := by omega
    refine ⟨this.1, ?_⟩
    rcases hl with e | e | e | e | e <;> (rw [e] at this; have := this.2; simp only [] at *; omega)
theorem t_zone (l : List UInt8) : Rdate_zone (tabK tbZ) (bs l) = some (pairIB (zoneB l)) := by
  unfold Rdate_zone
  rw [bs_size]
  by_cases h5 : l.length = 5
  · match l, h5 with
    | [z, a, b, c, d], _ =>
      rw [br_neg (by simp), br_yesD (by simp), cut_from]
      rw [show (1 : Int).toNat = 1 from rfl, show List.drop 1 [z, a, b, c, d] = [a, b, c, d] from rfl, kZ]
      have hr := numB_range [a, b, c, d] 4 4 (by decide)
      unfold zoneB
      simp only []
      generalize numB [a, b, c, d] 4 4 = n at hr ⊢
      obtain ⟨n, ok⟩ := n
      simp only [optK_s, pairIB]
      rw [asTup_v _ 2 rfl]
      simp only [List.getD_cons_zero, List.getD_cons_succ, asInt_v, asBool_v]
      cases ok with
      | false => rfl
      | true =>
        simp only [Bool.not_true, br_f, optK_s, asBool_v]
        rw [tmodP hr.1, tdivP hr.1]
        by_cases h1 : n % 100 > 59
        · rw [br_yesD h1, if_pos (.inr h1)]
        · rw [br_noD h1, if_neg (by simp; omega), br_yesD (by simp)]
          simp only [bt_bs, List.getElem?_cons_zero, Option.getD_some]
          simp only [] at hr
          rw [w64_id (n := n / 100) (by omega) (by omega), w64_id (n := n / 100 * 3600) (by omega) (by omega), w64_id (n := n % 100 * 60) (by omega) (by omega), w64_id (n := n / 100 * 3600 + n % 100 * 60) (by omega) (by omega), w64_id (by omega) (by omega)]
          by_cases hz : z = 43
          · subst hz; rfl
          · rw [if_neg hz, br_neg (b := ((z.toNat : Int)) == 43) (by
              rw [beq_eq_false_iff_ne]; intro h; exact hz (UInt8.toNat_inj.1 (by show z.toNat = 43; omega)))]
            by_cases hz : z = 45
            · subst hz; simp [br_t, pairIB]
            · rw [if_neg hz, br_neg (b := ((z.toNat : Int)) == 45) (by
                rw [beq_eq_false_iff_ne]; intro h; exact hz (UInt8.toNat_inj.1 (by show z.toNat = 45; omega)))]
  · rw [br_pos (by simp; omega)]
    have : zoneB l = (0, false) := by
      unfold zoneB
      split
      · simp at h5
      · rfl
    rw [this]; rfl
def e_zone : List AV → Option AV
  | [.v (.string s)] => some (pairIB (zoneB s.data.toList))
  | _ => none
theorem e_zone_ok (xs : List AV) (v : AV) (h : e_zone xs = some v) : PureCall X f_date_zone xs v := by
  unfold e_zone at h
  split at h
  · rename_i s
    cases h
    obtain ⟨l, rfl⟩ := exists_bs s
    rw [bs_list]
    exact pcdate_zone (tab_ok _ tbZ_ok) (t_zone l)
  · cases h
end Go.Proofs.YtmiffikcnkgcpaaDoor
