import Derived.Test.YtmiffikcnkgcpaaDoorToldDate
import Derived.Test.YtmiffikcnkgcpaaDoorAbCal
set_option linter.unusedVariables false
set_option linter.unusedSimpArgs false
set_option maxRecDepth 100000
namespace Go.Proofs.YtmiffikcnkgcpaaDoor
/- The functions of the calendar, told in plain numbers. -/
set_option linter.unusedVariables false
set_option linter.unusedSimpArgs false
open Go Go.Ab

theorem tmodP {y n : Int} (h : 0 ≤ y) : y.tmod n = y % n := Int.tmod_eq_emod_of_nonneg h
theorem tdivP {y n : Int} (h : 0 ≤ y) : y.tdiv n = y / n := Int.tdiv_eq_ediv_of_nonneg h

theorem t56 (K : PureK) (y : Int) (h : 0 ≤ y) : Rdate_leap K y = some (bv (leapI y)) := by
  unfold Rdate_leap leapI
  rw [tmodP h, tmodP h, tmodP h]
  cases (y % 4 == 0) <;> cases (y % 100 != 0) <;> rfl
theorem t55 (K : PureK) (y : Int) (h : 0 ≤ y) (h2 : y ≤ 10000) : Rdate_leaps K y = some (iv (leapsI y)) := by
  unfold Rdate_leaps leapsI
  by_cases h0 : y = 0
  · subst h0; rfl
  · rw [br_neg (by simpa using h0), if_neg h0, w64_id (n := y - 1) (by omega) (by omega), tdivP (by omega), tdivP (by omega), tdivP (by omega)]
    rw [w64_id (n := (y - 1) / 4) (by omega) (by omega), w64_id (n := (y - 1) / 100) (by omega) (by omega), w64_id (n := (y - 1) / 400) (by omega) (by omega)]
    rw [w64_id (n := (y - 1) / 4 - (y - 1) / 100) (by omega) (by omega), w64_id (n := (y - 1) / 4 - (y - 1) / 100 + (y - 1) / 400) (by omega) (by omega), w64_id (by omega) (by omega)]

def e56 : List AV → Option AV
  | [.v (.int .i64 y)] => br (decide (0 ≤ y)) (some (bv (leapI y))) none
  | _ => none
def e55 : List AV → Option AV
  | [.v (.int .i64 y)] => br (decide (0 ≤ y) && decide (y ≤ 10000)) (some (iv (leapsI y))) none
  | _ => none

theorem e56_ok (xs : List AV) (v : AV) (h : e56 xs = some v) : PureCall X f_date_leap xs v := by
  unfold e56 at h
  split at h
  · obtain ⟨h1, h2⟩ := br_yes h
    cases h2
    exact pcdate_leap ok_nil (t56 _ _ (by simpa using h1))
  · cases h
theorem e55_ok (xs : List AV) (v : AV) (h : e55 xs = some v) : PureCall X f_date_leaps xs v := by
  unfold e55 at h
  split at h
  · obtain ⟨h1, h2⟩ := br_yes h
    cases h2
    simp at h1
    exact pcdate_leaps ok_nil (t55 _ _ h1.1 h1.2)
  · cases h

def tb1 : Tab := [(f_date_leap, e56), (f_date_leaps, e55)]
theorem tb1_ok : TabOk X tb1 := tab_cons e56_ok (tab_cons e55_ok tab_nil)
theorem k1_56 {y : Int} (h : 0 ≤ y) : tabK tb1 f_date_leap [iv y] = some (bv (leapI y)) := br_pos (decide_eq_true h)
theorem k1_55 {y : Int} (h : 0 ≤ y) (h2 : y ≤ 10000) : tabK tb1 f_date_leaps [iv y] = some (iv (leapsI y)) := br_pos (by simp [h, h2])

theorem gl_date_ahead_get {m : Int} (h1 : 0 ≤ m) (h2 : m < 13) : gl_date_ahead[0 + m.toNat * 1]? = some (iv (aheadI m)) := by
  have : m = 0 ∨ m = 1 ∨ m = 2 ∨ m = 3 ∨ m = 4 ∨ m = 5 ∨ m = 6 ∨ m = 7 ∨ m = 8 ∨ m = 9 ∨ m = 10 ∨ m = 11 ∨ m = 12 := by omega
  rcases this with rfl | rfl | rfl | rfl | rfl | rfl | rfl | rfl | rfl | rfl | rfl | rfl | rfl <;> rfl

theorem aheadI_range {m : Int} (h1 : 0 ≤ m) (h2 : m < 13) : 0 ≤ aheadI m ∧ aheadI m ≤ 365 := by
  have : m = 0 ∨ m = 1 ∨ m = 2 ∨ m = 3 ∨ m = 4 ∨ m = 5 ∨ m = 6 ∨ m = 7 ∨ m = 8 ∨ m = 9 ∨ m = 10 ∨ m = 11 ∨ m = 12 := by omega
  rcases this with rfl | rfl | rfl | rfl | rfl | rfl | rfl | rfl | rfl | rfl | rfl | rfl | rfl <;> simp [aheadI]

theorem leapsI_range {y : Int} (h : 0 ≤ y) (h2 : y ≤ 10000) : 0 ≤ leapsI y ∧ leapsI y ≤ 10000 := by
  unfold leapsI; split <;> omega

theorem t39 (y m d : Int) (hy : 0 ≤ y) (hy2 : y ≤ 9999) (hm : 1 ≤ m) (hm2 : m ≤ 12) (hd : -1000000 ≤ d) (hd2 : d ≤ 1000000) : Rdate_count (tabK tb1) y m d = some (iv (yday y + mday y m + d - 1)) := by
  unfold Rdate_count
  rw [k1_55 hy (by omega), k1_55 (by omega) (by omega), k1_56 hy]
  simp only [optK_s, asInt_v, asBool_v]
  rw [w64_id (n := m - 1) (by omega) (by omega), br_yesD (by omega), br_yesD (by omega), gl_date_ahead_get (by omega) (by omega)]
  simp only [optK_s, asInt_v, asBool_v]
  have ha := aheadI_range (m := m - 1) (by omega) (by omega)
  have hl := leapsI_range hy (by omega)
  have h70 : leapsI 1970 = 478 := by decide
  rw [h70]
  have e : w64 (w64 (w64 (w64 (w64 (w64 (w64 (y - 1970) * 365) + leapsI y) - 478) + aheadI (m - 1)) + d) - 1) = yday y + aheadI (m - 1) + d - 1 := by
    unfold yday
    rw [w64_id (n := y - 1970) (by omega) (by omega), w64_id (n := (y - 1970) * 365) (by omega) (by omega), w64_id (n := (y - 1970) * 365 + leapsI y) (by omega) (by omega),
      w64_id (n := (y - 1970) * 365 + leapsI y - 478) (by omega) (by omega), w64_id (n := (y - 1970) * 365 + leapsI y - 478 + aheadI (m - 1)) (by omega) (by omega),
      w64_id (n := (y - 1970) * 365 + leapsI y - 478 + aheadI (m - 1) + d) (by omega) (by omega), w64_id (by omega) (by omega)]
  rw [e]
  have hyr : -800000 ≤ yday y ∧ yday y ≤ 4000000 := by unfold yday; omega
  unfold mday li
  by_cases h2 : m > 2
  · rw [br_yesD h2, if_pos h2]
    simp only [optK_s, asBool_v]
    cases leapI y
    · simp only [br_f]; exact some_iv (by omega)
    · simp only [br_t]; rw [w64_id (by omega) (by omega)]; exact some_iv (by omega)
  · rw [br_noD h2, if_neg h2]
    simp only [optK_s, asBool_v, br_f]; exact some_iv (by omega)

theorem t58 (y m : Int) (hy : 0 ≤ y) (hm : 1 ≤ m) (hm2 : m ≤ 12) : Rdate_days (tabK tb1) y m = some (iv (daysI y m)) := by
  unfold Rdate_days
  rw [k1_56 hy]
  rw [br_yesD (by omega), br_yesD (by omega), gl_date_ahead_get (by omega) (by omega)]
  simp only [optK_s, asInt_v, asBool_v]
  rw [w64_id (n := m - 1) (by omega) (by omega), br_yesD (by omega), br_yesD (by omega), gl_date_ahead_get (by omega) (by omega)]
  simp only [optK_s, asInt_v, asBool_v]
  unfold daysI li
  rcases months hm hm2 with rfl | rfl | rfl | rfl | rfl | rfl | rfl | rfl | rfl | rfl | rfl | rfl <;> first | rfl | (cases leapI y <;> rfl)

def e39 : List AV → Option AV
  | [.v (.int .i64 y), .v (.int .i64 m), .v (.int .i64 d)] => br (decide (0 ≤ y ∧ y ≤ 9999 ∧ 1 ≤ m ∧ m ≤ 12 ∧ -1000000 ≤ d ∧ d ≤ 1000000)) (some (iv (yday y + mday y m + d - 1))) none
  | _ => none
def e58 : List AV → Option AV
  | [.v (.int .i64 y), .v (.int .i64 m)] => br (decide (0 ≤ y ∧ 1 ≤ m ∧ m ≤ 12)) (some (iv (daysI y m))) none
  | _ => none
theorem e39_ok (xs : List AV) (v : AV) (h : e39 xs = some v) : PureCall X f_date_count xs v := by
  unfold e39 at h
  split at h
  · obtain ⟨h1, h2⟩ := br_yes h
    cases h2
    obtain ⟨a, b, c, d, e, f⟩ := of_decide_eq_true h1
    exact pcdate_count (tab_ok _ tb1_ok) (t39 _ _ _ a b c d e f)
  · cases h
theorem e58_ok (xs : List AV) (v : AV) (h : e58 xs = some v) : PureCall X f_date_days xs v := by
  unfold e58 at h
  split at h
  · obtain ⟨h1, h2⟩ := br_yes h
    cases h2
    obtain ⟨a, b, c⟩ := of_decide_eq_true h1
    exact pcdate_days (tab_ok _ tb1_ok) (t58 _ _ a b c)
  · cases h
def tb2 : Tab := (f_date_count, e39) :: (f_date_days, e58) :: tb1
theorem tb2_ok : TabOk X tb2 := tab_cons e39_ok (tab_cons e58_ok tb1_ok)
theorem k2_39 {y m d : Int} (h : 0 ≤ y ∧ y ≤ 9999 ∧ 1 ≤ m ∧ m ≤ 12 ∧ -1000000 ≤ d ∧ d ≤ 1000000) : tabK tb2 f_date_count [iv y, iv m, iv d] = some (iv (yday y + mday y m + d - 1)) := br_pos (decide_eq_true h)
theorem k2_58 {y m : Int} (h : 0 ≤ y ∧ 1 ≤ m ∧ m ≤ 12) : tabK tb2 f_date_days [iv y, iv m] = some (iv (daysI y m)) := br_pos (decide_eq_true h)
end Go.Proofs.YtmiffikcnkgcpaaDoor
