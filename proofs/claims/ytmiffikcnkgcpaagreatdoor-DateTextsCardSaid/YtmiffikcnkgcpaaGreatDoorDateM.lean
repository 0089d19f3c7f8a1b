/- The calendar. -/
import Derived.Test.YtmiffikcnkgcpaaGreatDoorStrM
import Derived.Test.YtmiffikcnkgcpaaGreatDoorAbCal
set_option linter.unusedVariables false
set_option linter.unusedSimpArgs false
set_option maxRecDepth 100000
namespace Go.Proofs.YtmiffikcnkgcpaaGreatDoor
open Go Go.Ab


theorem tmodP {y n : Int} (h : 0 ≤ y) : y.tmod n = y % n := Int.tmod_eq_emod_of_nonneg h
theorem tdivP {y n : Int} (h : 0 ≤ y) : y.tdiv n = y / n := Int.tdiv_eq_ediv_of_nonneg h

theorem t56 (K : PureK) (y : Int) (h : 0 ≤ y) : Rdate_leap K y = some (bv (leapI y)) := by
  unfold Rdate_leap leapI
  rw [tmodP h, tmodP h, tmodP h]
  cases (y % 4 == 0) <;> cases (y % 100 != 0) <;> rfl
theorem t55 (K : PureK) (y : Int) (h : 0 ≤ y) (h2 : y ≤ 10000) : Rdate_leaps K y = some (iv (leapsI y)) := by
  unfold Rdate_leaps leapsI
  by_cases h0 : y = 0
  · subst h0; rfl
  · rw [br_neg (by simpa using h0), if_neg h0, w64_id (n := y - 1) (by omega) (by omega), tdivP (by omega), tdivP (by omega), tdivP (by omega)]
    rw [w64_id (n := (y - 1) / 4) (by omega) (by omega), w64_id (n := (y - 1) / 100) (by omega) (by omega), w64_id (n := (y - 1) / 400) (by omega) (by omega)]
    rw [w64_id (n := (y - 1) / 4 - (y - 1) / 100) (by omega) (by omega), w64_id (n := (y - 1) / 4 - (y - 1) / 100 + (y - 1) / 400) (by omega) (by omega), w64_id (by omega) (by omega)]

def e56 : List AV → Option AV
  | [.v (.int .i64 y)] => br (decide (0 ≤ y)) (some (bv (leapI y))) none
  | _ => none
def e55 : List AV → Option AV
  | [.v (.int .i64 y)] => br (decide (0 ≤ y) && decide (y ≤ 10000)) (some (iv (leapsI y))) none
  | _ => none

theorem e56_ok (xs : List AV) (v : AV) (h : e56 xs = some v) : PureCall X f_date_leap xs v := by
  unfold e56 at h
  split at h
  · obtain ⟨h1, h2⟩ := br_yes h
    cases h2
    exact pcdate_leap ok_nil (t56 _ _ (by simpa using h1))
  · cases h
theorem e55_ok (xs : List AV) (v : AV) (h : e55 xs = some v) : PureCall X f_date_leaps xs v := by
  unfold e55 at h
  split at h
  · obtain ⟨h1, h2⟩ := br_yes h
    cases h2
    simp at h1
    exact pcdate_leaps ok_nil (t55 _ _ h1.1 h1.2)
  · cases h

def tb1 : Tab := [(f_date_leap, e56), (f_date_leaps, e55)]
theorem tb1_ok : TabOk X tb1 := tab_cons e56_ok (tab_cons e55_ok tab_nil)
theorem k1_56 {y : Int} (h : 0 ≤ y) : tabK tb1 f_date_leap [iv y] = some (bv (leapI y)) := br_pos (decide_eq_true h)
theorem k1_55 {y : Int} (h : 0 ≤ y) (h2 : y ≤ 10000) : tabK tb1 f_date_leaps [iv y] = some (iv (leapsI y)) := br_pos (by simp [h, h2])

theorem gl_date_ahead_get {m : Int} (h1 : 0 ≤ m) (h2 : m < 13) : gl_date_ahead[0 + m.toNat * 1]? = some (iv (aheadI m)) := by
  have : m = 0 ∨ m = 1 ∨ m = 2 ∨ m = 3 ∨ m = 4 ∨ m = 5 ∨ m = 6 ∨ m = 7 ∨ m = 8 ∨ m = 9 ∨ m = 10 ∨ m = 11 ∨ m = 12 := by omega
  rcases this with rfl | rfl | rfl | rfl | rfl | rfl | rfl | rfl | rfl | rfl | rfl | rfl | rfl <;> rfl

theorem aheadI_range {m : Int} (h1 : 0 ≤ m) (h2 : m < 13) : 0 ≤ aheadI m ∧ aheadI m ≤ 365 := by
  have : m = 0 ∨ m = 1 ∨ m = 2 ∨ m = 3 ∨ m = 4 ∨ m = 5 ∨ m = 6 ∨ m = 7 ∨ m = 8 ∨ m = 9 ∨ m = 10 ∨ m = 11 ∨ m = 12 := by omega
  rcases this with rfl | rfl | rfl | rfl | rfl | rfl | rfl | rfl | rfl | rfl | rfl | rfl | rfl <;> simp [aheadI]

theorem leapsI_range {y : Int} (h : 0 ≤ y) (h2 : y ≤ 10000) : 0 ≤ leapsI y ∧ leapsI y ≤ 10000 := by
  unfold leapsI; split <;> omega

theorem t39 (y m d : Int) (hy : 0 ≤ y) (hy2 : y ≤ 9999) (hm : 1 ≤ m) (hm2 : m ≤ 12) (hd : -1000000 ≤ d) (hd2 : d ≤ 1000000) : Rdate_count (tabK tb1) y m d = some (iv (yday y + mday y m + d - 1)) := by
  unfold Rdate_count
  rw [k1_55 hy (by omega), k1_55 (by omega) (by omega), k1_56 hy]
  simp only [optK_s, asInt_v, asBool_v]
  rw [w64_id (n := m - 1) (by omega) (by omega), br_yesD (by omega), br_yesD (by omega), gl_date_ahead_get (by omega) (by omega)]
  simp only [optK_s, asInt_v, asBool_v]
  have ha := aheadI_range (m := m - 1) (by omega) (by omega)
  have hl := leapsI_range hy (by omega)
  have h70 : leapsI 1970 = 478 := by decide
  rw [h70]
  have e : w64 (w64 (w64 (w64 (w64 (w64 (w64 (y - 1970) * 365) + leapsI y) - 478) + aheadI (m - 1)) + d) - 1) = yday y + aheadI (m - 1) + d - 1 := by
    unfold yday
    rw [w64_id (n := y - 1970) (by omega) (by omega), w64_id (n := (y - 1970) * 365) (by omega) (by omega), w64_id (n := (y - 1970) * 365 + leapsI y) (by omega) (by omega),
      w64_id (n := (y - 1970) * 365 + leapsI y - 478) (by omega) (by omega), w64_id (n := (y - 1970) * 365 + leapsI y - 478 + aheadI (m - 1)) (by omega) (by omega),
      w64_id (n := (y - 1970) * 365 + leapsI y - 478 + aheadI (m - 1) + d) (by omega) (by omega), w64_id (by omega) (by omega)]
  rw [e]
  have hyr : -800000 ≤ yday y ∧ yday y ≤ 4000000 := by unfold yday; omega
  unfold mday li
  by_cases h2 : m > 2
  · rw [br_yesD h2, if_pos h2]
    simp only [optK_s, asBool_v]
    cases leapI y
    · simp only [br_f]; exact some_iv (by omega)
    · simp only [br_t]; rw [w64_id (by omega) (by omega)]; exact some_iv (by omega)
  · rw [br_noD h2, if_neg h2]
    simp only [optK_s, asBool_v, br_f]; exact some_iv (by omega)

theorem t58 (y m : Int) (hy : 0 ≤ y) (hm : 1 ≤ m) (hm2 : m ≤ 12) : Rdate_days (tabK tb1) y m = some (iv (daysI y m)) := by
  unfold Rdate_days
  rw [k1_56 hy]
  rw [br_yesD (by omega), br_yesD (by omega), gl_date_ahead_get (by omega) (by omega)]
  simp only [optK_s, asInt_v, asBool_v]
  rw [w64_id (n := m - 1) (by omega) (by omega), br_yesD (by omega), br_yesD (by omega), gl_date_ahead_get (by omega) (by omega)]
  simp only [optK_s, asInt_v, asBool_v]
  unfold daysI li
  rcases months hm hm2 with rfl | rfl | rfl | rfl | rfl | rfl | rfl | rfl | rfl | rfl | rfl | rfl <;> first | rfl | (cases leapI y <;> rfl)

def e39 : List AV → Option AV
  | [.v (.int .i64 y), .v (.int .i64 m), .v (.int .i64 d)] => br (decide (0 ≤ y ∧ y ≤ 9999 ∧ 1 ≤ m ∧ m ≤ 12 ∧ -1000000 ≤ d ∧ d ≤ 1000000)) (some (iv (yday y + mday y m + d - 1))) none
  | _ => none
def e58 : List AV → Option AV
  | [.v (.int .i64 y), .v (.int .i64 m)] => br (decide (0 ≤ y ∧ 1 ≤ m ∧ m ≤ 12)) (some (iv (daysI y m))) none
  | _ => none
theorem e39_ok (xs : List AV) (v : AV) (h : e39 xs = some v) : PureCall X f_date_count xs v := by
  unfold e39 at h
  split at h
  · obtain ⟨h1, h2⟩ := br_yes h
    cases h2
    obtain ⟨a, b, c, d, e, f⟩ := of_decide_eq_true h1
    exact pcdate_count (tab_ok _ tb1_ok) (t39 _ _ _ a b c d e f)
  · cases h
theorem e58_ok (xs : List AV) (v : AV) (h : e58 xs = some v) : PureCall X f_date_days xs v := by
  unfold e58 at h
  split at h
  · obtain ⟨h1, h2⟩ := br_yes h
    cases h2
    obtain ⟨a, b, c⟩ := of_decide_eq_true h1
    exact pcdate_days (tab_ok _ tb1_ok) (t58 _ _ a b c)
  · cases h
def tb2 : Tab := (f_date_count, e39) :: (f_date_days, e58) :: tb1
theorem tb2_ok : TabOk X tb2 := tab_cons e39_ok (tab_cons e58_ok tb1_ok)
theorem k2_39 {y m d : Int} (h : 0 ≤ y ∧ y ≤ 9999 ∧ 1 ≤ m ∧ m ≤ 12 ∧ -1000000 ≤ d ∧ d ≤ 1000000) : tabK tb2 f_date_count [iv y, iv m, iv d] = some (iv (yday y + mday y m + d - 1)) := br_pos (decide_eq_true h)
theorem k2_58 {y m : Int} (h : 0 ≤ y ∧ 1 ≤ m ∧ m ≤ 12) : tabK tb2 f_date_days [iv y, iv m] = some (iv (daysI y m)) := br_pos (decide_eq_true h)


def thereI (y m d : Int) : Bool := decide (0 ≤ y ∧ y ≤ 9999 ∧ 1 ≤ m ∧ m ≤ 12 ∧ 1 ≤ d ∧ d ≤ daysI y m)

theorem t42 (y m d : Int) : Rdate_there (tabK tb2) y m d = some (bv (thereI y m d)) := by
  unfold Rdate_there thereI
  by_cases h1 : y ≥ 0
  · by_cases h2 : y ≤ 9999
    · by_cases h3 : m ≥ 1
      · by_cases h4 : m ≤ 12
        · by_cases h5 : d ≥ 1
          · rw [br_yesD h1, br_yesD h2, br_yesD h3, br_yesD h4, br_yesD h5, k2_58 ⟨h1, h3, h4⟩]
            simp only [optK_s, asInt_v, asBool_v]
            refine congrArg (fun b => some (bv b)) ?_
            simp only [decide_eq_decide]; omega
          · rw [br_yesD h1, br_yesD h2, br_yesD h3, br_yesD h4, br_noD h5, decide_eq_false (by omega)]; rfl
        · rw [br_yesD h1, br_yesD h2, br_yesD h3, br_noD h4, decide_eq_false (by omega)]; rfl
      · rw [br_yesD h1, br_yesD h2, br_noD h3, decide_eq_false (by omega)]; rfl
    · rw [br_yesD h1, br_noD h2, decide_eq_false (by omega)]; rfl
  · rw [br_noD h1, decide_eq_false (by omega)]; rfl
theorem yday_range {y : Int} (h : 0 ≤ y) (h2 : y ≤ 10000) : -800000 ≤ yday y ∧ yday y ≤ 4000000 := by
  have := leapsI_range h h2; unfold yday; omega

/-- The loops of the program's date. -/
def inv16_0 : Sdate_Civil_0 → Bool
  | .s0 day y => decide (1970 ≤ y ∧ y ≤ 9999)
theorem i16_0 {day y : Int} (h : 1970 ≤ y ∧ y ≤ 9999) : inv16_0 (.s0 day y) = true := decide_eq_true h
def out16_0' : Sdate_Civil_0 → Odate_Civil_0
  | .s0 day y => .x0 day (yearGo day (9999 - y).toNat y)
theorem l16_0 : ∀ s o, lOf inv16_0 out16_0' s = some o → ∃ k, fuelRec (Rdate_Civil_0 (tabK tb2) some) k s = some o :=
  fuel_of inv16_0 out16_0' (fun | .s0 day y => (9999 - y).toNat) (by
    rintro ⟨day, y⟩ rec hi hrec
    have hi := of_decide_eq_true hi
    show Rdate_Civil_0 (tabK tb2) some rec (.s0 day y) = _
    simp only [Rdate_Civil_0]
    by_cases h : y < 9999
    · rw [br_yesD h, w64_id (n := y + 1) (by omega) (by omega), k2_39 (by omega)]
      simp only [optK_s, asInt_v, asBool_v]
      obtain ⟨n, hn⟩ : ∃ n, (9999 - y).toNat = n + 1 := ⟨(9999 - y).toNat - 1, by omega⟩
      have hn' : (9999 - (y + 1)).toNat = n := by omega
      by_cases hc : yday (y + 1) ≤ day
      · rw [br_yesD (by rw [mday_one]; omega), hrec _ (i16_0 (by omega)) (by show (9999 - (y + 1)).toNat < (9999 - y).toNat; omega)]
        simp only [out16_0', hn, hn', yearGo, if_pos hc]
      · rw [br_noD (by rw [mday_one]; omega)]
        simp only [out16_0', hn, yearGo, if_neg hc]
    · rw [br_noD h]
      simp only [optK_s, asBool_v, br_f]
      obtain rfl : y = 9999 := by omega
      rfl)

def inv16_1 : Sdate_Civil_1 → Bool
  | .s0 day y m => decide (0 ≤ y ∧ y ≤ 9999 ∧ 1 ≤ m ∧ m ≤ 12)
theorem i16_1 {day y m : Int} (h : 0 ≤ y ∧ y ≤ 9999 ∧ 1 ≤ m ∧ m ≤ 12) : inv16_1 (.s0 day y m) = true := decide_eq_true h
def out16_1' : Sdate_Civil_1 → Odate_Civil_1
  | .s0 day y m => .x0 day y (monthGo day y (12 - m).toNat m)
theorem l16_1 : ∀ s o, lOf inv16_1 out16_1' s = some o → ∃ k, fuelRec (Rdate_Civil_1 (tabK tb2) some) k s = some o :=
  fuel_of inv16_1 out16_1' (fun | .s0 day y m => (12 - m).toNat) (by
    rintro ⟨day, y, m⟩ rec hi hrec
    have hi := of_decide_eq_true hi
    show Rdate_Civil_1 (tabK tb2) some rec (.s0 day y m) = _
    simp only [Rdate_Civil_1]
    by_cases h : m < 12
    · rw [br_yesD h, w64_id (n := m + 1) (by omega) (by omega), k2_39 (by omega)]
      simp only [optK_s, asInt_v, asBool_v]
      obtain ⟨n, hn⟩ : ∃ n, (12 - m).toNat = n + 1 := ⟨(12 - m).toNat - 1, by omega⟩
      have hn' : (12 - (m + 1)).toNat = n := by omega
      by_cases hc : yday y + mday y (m + 1) ≤ day
      · rw [br_yesD (by omega), hrec _ (i16_1 (by omega)) (by show (12 - (m + 1)).toNat < (12 - m).toNat; omega)]
        simp only [out16_1', hn, hn', monthGo, if_pos hc]
      · rw [br_noD (by omega)]
        simp only [out16_1', hn, monthGo, if_neg hc]
    · rw [br_noD h]
      simp only [optK_s, asBool_v, br_f]
      obtain rfl : m = 12 := by omega
      rfl)

def triple (x : Int × Int × Int) : AV := .tup [iv x.1, iv x.2.1, iv x.2.2]

theorem t16 (day : Int) : Rdate_Civil (tabK tb2) (lOf inv16_0 out16_0') (lOf inv16_1 out16_1') day = some (triple (if day < 0 ∨ day > 2932896 then (0, 0, 0) else civP day)) := by
  unfold Rdate_Civil
  by_cases h1 : day < 0
  · rw [br_yesD h1, if_pos (.inl h1)]; rfl
  · rw [br_noD h1]
    simp only [optK_s, asBool_v]
    by_cases h2 : day > 2932896
    · rw [br_yesD h2, if_pos (.inr h2)]; rfl
    · rw [br_noD h2, if_neg (by omega)]
      obtain ⟨a, b, c⟩ := start_ok (day := day) (by omega) (by omega)
      have hy := yearGo_spec day _ (1970 + day / 366) rfl a b c (by omega)
      have hm := monthGo_spec day (yearGo day (9999 - (1970 + day / 366)).toNat (1970 + day / 366)) hy.2.2.2 (by omega) 11 1 (by decide) (by omega) (by omega) (by rw [mday_one]; omega)
      have hyr := yday_range (y := yearGo day (9999 - (1970 + day / 366)).toNat (1970 + day / 366)) (by omega) (by omega)
      have hmr := mday_range (y := yearGo day (9999 - (1970 + day / 366)).toNat (1970 + day / 366)) (m := monthGo day (yearGo day (9999 - (1970 + day / 366)).toNat (1970 + day / 366)) 11 1) (by omega) (by omega)
      rw [tdivP (by omega), w64_id (n := day / 366) (by omega) (by omega), w64_id (n := 1970 + day / 366) (by omega) (by omega), lOf_pos (i16_0 (by omega))]
      simp only [optK_s, out16_0', Odate_Civil_0.k]
      rw [lOf_pos (i16_1 (by omega))]
      simp only [optK_s, out16_1', Odate_Civil_1.k]
      rw [show (12 - (1 : Int)).toNat = 11 from rfl]
      rw [k2_39 (by omega)]
      simp only [optK_s, asInt_v]
      unfold triple civP
      simp only []
      congr 6
      rw [w64_id (n := day - _) (by omega) (by omega), w64_id (by omega) (by omega)]
      omega

def e42 : List AV → Option AV
  | [.v (.int .i64 y), .v (.int .i64 m), .v (.int .i64 d)] => some (bv (thereI y m d))
  | _ => none
/-- A day's date. -/
def civI (day : Int) : Int × Int × Int := if day < 0 ∨ day > 2932896 then (0, 0, 0) else civP day
def e16 : List AV → Option AV
  | [.v (.int .i64 day)] => some (triple (civI day))
  | _ => none
theorem e42_ok (xs : List AV) (v : AV) (h : e42 xs = some v) : PureCall X f_date_there xs v := by
  unfold e42 at h
  split at h
  · cases h; exact pcdate_there (tab_ok _ tb2_ok) (t42 _ _ _)
  · cases h
theorem e16_ok (xs : List AV) (v : AV) (h : e16 xs = some v) : PureCall X f_date_Civil xs v := by
  unfold e16 at h
  split at h
  · cases h; exact pcdate_Civil (tab_ok _ tb2_ok) l16_0 l16_1 (t16 _)
  · cases h
def tb3 : Tab := (f_date_there, e42) :: (f_date_Civil, e16) :: tb2
theorem tb3_ok : TabOk X tb3 := tab_cons e42_ok (tab_cons e16_ok tb2_ok)
theorem k3_39 {y m d : Int} (h : 0 ≤ y ∧ y ≤ 9999 ∧ 1 ≤ m ∧ m ≤ 12 ∧ -1000000 ≤ d ∧ d ≤ 1000000) : tabK tb3 f_date_count [iv y, iv m, iv d] = some (iv (yday y + mday y m + d - 1)) := br_pos (decide_eq_true h)
theorem k3_42 {y m d : Int} : tabK tb3 f_date_there [iv y, iv m, iv d] = some (bv (thereI y m d)) := rfl
theorem k3_16 {day : Int} : tabK tb3 f_date_Civil [iv day] = some (triple (civI day)) := rfl
/-- A date's day. -/
def numI (y m d : Int) : Int := match decide (y < 1970) || !thereI y m d with
  | true => -1
  | false => yday y + mday y m + d - 1

theorem there_day {y m d : Int} (h : thereI y m d = true) : 0 ≤ y ∧ y ≤ 9999 ∧ 1 ≤ m ∧ m ≤ 12 ∧ 1 ≤ d ∧ d ≤ 31 := by
  have := of_decide_eq_true h
  have := @daysI_pos y m
  omega

theorem t18 (y m d : Int) : Rdate_Number (tabK tb3) y m d = some (iv (numI y m d)) := by
  unfold Rdate_Number numI
  rw [k3_42]
  simp only [optK_s, asBool_v]
  by_cases h : y < 1970
  · rw [br_yesD h]; simp [h, optK_s, asBool_v, br_t]
  · rw [br_noD h]
    simp only [optK_s, asBool_v, h, decide_false, Bool.false_or]
    cases ht : thereI y m d with
    | false => rfl
    | true =>
      have := there_day ht
      rw [k3_39 (by omega)]; rfl
def e18 : List AV → Option AV
  | [.v (.int .i64 y), .v (.int .i64 m), .v (.int .i64 d)] => some (iv (numI y m d))
  | _ => none
theorem e18_ok (xs : List AV) (v : AV) (h : e18 xs = some v) : PureCall X f_date_Number xs v := by
  unfold e18 at h
  split at h
  · cases h; exact pcdate_Number (tab_ok _ tb3_ok) (t18 _ _ _)
  · cases h


def pairIB (x : Int × Bool) : AV := .tup [iv x.1, bv x.2]
def pairII (x : Int × Int) : AV := .tup [iv x.1, iv x.2]
def numB (l : List UInt8) (lo hi : Int) : Int × Bool :=
  if (l.length : Int) < lo ∨ (l.length : Int) > hi ∨ l.all isDig = false then (0, false) else (numGo l 0, true)

def tbN : Tab := [(f_strings_Trim, e_Trim), (f_strconv_Atoi, e_iAtoi)]
theorem tbN_ok : TabOk X tbN := tab_cons e_Trim_ok (tab_cons e_Atoi_ok tab_nil)
theorem kN_Trim {l : List UInt8} (h : l.length ≤ 1000000000) : tabK tbN f_strings_Trim [sv (bs l), sv { data := #[48, 49, 50, 51, 52, 53, 54, 55, 56, 57] }] = some (sv (bs (trimB isDig l))) := by
  show br (([48, 49, 50, 51, 52, 53, 54, 55, 56, 57] : List UInt8) == digL && decide ((bs l).size ≤ 1000000000)) (some (sv (bs (trimB isDig (bs l).data.toList)))) none = _
  rw [bs_list, bs_size, br_pos (by simp [digL, h])]
theorem kN_Atoi {l : List UInt8} (h : l.all isDig = true) (h1 : 1 ≤ l.length) (h2 : l.length ≤ 18) : tabK tbN f_strconv_Atoi [sv (bs l)] = some (.tup [iv (numGo l 0), .v .nilIface]) := by
  show br ((bs l).data.toList.all isDig && decide (1 ≤ (bs l).data.toList.length) && decide ((bs l).data.toList.length ≤ 18)) (some (AV.tup [iv (numGo (bs l).data.toList 0), .v .nilIface])) none = _
  rw [bs_list, br_pos (by simp [h, h1, h2])]

theorem t_number (l : List UInt8) (lo hi : Int) (h0 : 1 ≤ lo) (h18 : hi ≤ 18) : Rdate_number (tabK tbN) (bs l) lo hi = some (pairIB (numB l lo hi)) := by
  unfold Rdate_number numB
  rw [bs_size]
  by_cases h1 : (l.length : Int) < lo
  · rw [br_yesD h1, if_pos (.inl h1)]; rfl
  · rw [br_noD h1]
    by_cases h2 : (l.length : Int) > hi
    · rw [br_yesD h2, if_pos (.inr (.inl h2))]; rfl
    · rw [br_noD h2, kN_Trim (by omega)]
      simp only [optK_s, asStr_v, asBool_v]
      rw [emp, strEq_bs, trimB_nil]
      cases h3 : l.all isDig with
      | false => rw [if_pos (.inr (.inr rfl))]; rfl
      | true =>
        rw [if_neg (by simp; omega)]
        simp only [Bool.not_true, br_f]
        rw [kN_Atoi h3 (by omega) (by omega)]
        rfl
def e_number : List AV → Option AV
  | [.v (.string s), .v (.int .i64 lo), .v (.int .i64 hi)] => br (decide (1 ≤ lo ∧ hi ≤ 18)) (some (pairIB (numB s.data.toList lo hi))) none
  | _ => none
theorem e_number_ok (xs : List AV) (v : AV) (h : e_number xs = some v) : PureCall X f_date_number xs v := by
  unfold e_number at h
  split at h
  · rename_i s lo hi
    obtain ⟨h1, h2⟩ := br_yes h
    cases h2
    obtain ⟨l, rfl⟩ := exists_bs s
    rw [bs_list]
    have h1 := of_decide_eq_true h1
    exact pcdate_number (tab_ok _ tbN_ok) (t_number l lo hi h1.1 h1.2)
  · cases h

/-- A digit's byte. -/
def digU (n : Int) : UInt8 := UInt8.ofNat (48 + n % 10).toNat
def twoL (n : Int) : List UInt8 := [digU (n / 10), digU n]
theorem t_two (K : PureK) (n : Int) (h : 0 ≤ n) (h2 : n ≤ 1000000) : Rdate_two K n = some (sv (bs (twoL n))) := by
  unfold Rdate_two twoL digU
  rw [w64_id (n := n.tdiv 10) (by rw [tdivP h]; omega) (by rw [tdivP h]; omega), tdivP h, tmodP h, tmodP (by omega), w64_id (n := 48 + n % 10) (by omega) (by omega), w64_id (n := 48 + n / 10 % 10) (by omega) (by omega),
    w8_id (by omega) (by omega), w8_id (by omega) (by omega)]
  rfl
def e_two : List AV → Option AV
  | [.v (.int .i64 n)] => br (decide (0 ≤ n ∧ n ≤ 1000000)) (some (sv (bs (twoL n)))) none
  | _ => none
theorem e_two_ok (xs : List AV) (v : AV) (h : e_two xs = some v) : PureCall X f_date_two xs v := by
  unfold e_two at h
  split at h
  · obtain ⟨h1, h2⟩ := br_yes h
    cases h2
    have h1 := of_decide_eq_true h1
    exact pcdate_two ok_nil (t_two _ _ h1.1 h1.2)
  · cases h

def dayI (t : Int) : Int := if t < 0 then -1 else t / 86400
theorem t_Day (K : PureK) (t : Int) (h : t ≤ 9000000000000000000) : Rdate_Day K t = some (iv (dayI t)) := by
  unfold Rdate_Day dayI
  by_cases h1 : t < 0
  · rw [br_yesD h1, if_pos h1]
  · rw [br_noD h1, if_neg h1, tdivP (by omega), w64_id (by omega) (by omega)]
def e_Day : List AV → Option AV
  | [.v (.int .i64 t)] => br (decide (t ≤ 9000000000000000000)) (some (iv (dayI t))) none
  | _ => none
theorem e_Day_ok (xs : List AV) (v : AV) (h : e_Day xs = some v) : PureCall X f_date_Day xs v := by
  unfold e_Day at h
  split at h
  · obtain ⟨h1, h2⟩ := br_yes h
    cases h2
    exact pcdate_Day ok_nil (t_Day _ _ (of_decide_eq_true h1))
  · cases h

/-- A zone. -/
def zoneB (l : List UInt8) : Int × Bool :=
  match l with
  | [z, a, b, c, d] =>
    let n := numB [a, b, c, d] 4 4
    if n.2 = false ∨ n.1 % 100 > 59 then (0, false) else
    if z = 43 then (n.1 / 100 * 3600 + n.1 % 100 * 60, true) else
    if z = 45 then (-(n.1 / 100 * 3600 + n.1 % 100 * 60), true) else (0, false)
  | _ => (0, false)
def tbZ : Tab := [(f_date_number, e_number)]
theorem tbZ_ok : TabOk X tbZ := tab_cons e_number_ok tab_nil
theorem kZ (l : List UInt8) : tabK tbZ f_date_number [sv (bs l), iv 4, iv 4] = some (pairIB (numB l 4 4)) := by
  show br (decide ((1 : Int) ≤ 4 ∧ (4 : Int) ≤ 18)) (some (pairIB (numB (bs l).data.toList 4 4))) none = _
  rw [bs_list]; rfl
theorem numB_range (l : List UInt8) (lo hi : Int) (h : hi ≤ 4) : 0 ≤ (numB l lo hi).1 ∧ (numB l lo hi).1 < 10000 := by
  unfold numB
  split
  · decide
  · rename_i h1
    have h3 : l.all isDig = true := by
      cases h4 : l.all isDig with
      | true => rfl
      | false => exact absurd (.inr (.inr h4)) h1
    have := numGo_range l 0 h3 (by omega)
    have hl : l.length = 0 ∨ l.length = 1 ∨ l.length = 2 ∨ l.length = 3 ∨ l.length = 4 := by omega
    refine ⟨this.1, ?_⟩
    rcases hl with e | e | e | e | e <;> (rw [e] at this; have := this.2; simp only [] at *; omega)
theorem t_zone (l : List UInt8) : Rdate_zone (tabK tbZ) (bs l) = some (pairIB (zoneB l)) := by
  unfold Rdate_zone
  rw [bs_size]
  by_cases h5 : l.length = 5
  · match l, h5 with
    | [z, a, b, c, d], _ =>
      rw [br_neg (by simp), br_yesD (by simp), cut_from]
      rw [show (1 : Int).toNat = 1 from rfl, show List.drop 1 [z, a, b, c, d] = [a, b, c, d] from rfl, kZ]
      have hr := numB_range [a, b, c, d] 4 4 (by decide)
      unfold zoneB
      simp only []
      generalize numB [a, b, c, d] 4 4 = n at hr ⊢
      obtain ⟨n, ok⟩ := n
      simp only [optK_s, pairIB]
      rw [asTup_v _ 2 rfl]
      simp only [List.getD_cons_zero, List.getD_cons_succ, asInt_v, asBool_v]
      cases ok with
      | false => rfl
      | true =>
        simp only [Bool.not_true, br_f, optK_s, asBool_v]
        rw [tmodP hr.1, tdivP hr.1]
        by_cases h1 : n % 100 > 59
        · rw [br_yesD h1, if_pos (.inr h1)]
        · rw [br_noD h1, if_neg (by simp; omega), br_yesD (by simp)]
          simp only [bt_bs, List.getElem?_cons_zero, Option.getD_some]
          simp only [] at hr
          rw [w64_id (n := n / 100) (by omega) (by omega), w64_id (n := n / 100 * 3600) (by omega) (by omega), w64_id (n := n % 100 * 60) (by omega) (by omega), w64_id (n := n / 100 * 3600 + n % 100 * 60) (by omega) (by omega), w64_id (by omega) (by omega)]
          by_cases hz : z = 43
          · subst hz; rfl
          · rw [if_neg hz, br_neg (b := ((z.toNat : Int)) == 43) (by
              rw [beq_eq_false_iff_ne]; intro h; exact hz (UInt8.toNat_inj.1 (by show z.toNat = 43; omega)))]
            by_cases hz : z = 45
            · subst hz; simp [br_t, pairIB]
            · rw [if_neg hz, br_neg (b := ((z.toNat : Int)) == 45) (by
                rw [beq_eq_false_iff_ne]; intro h; exact hz (UInt8.toNat_inj.1 (by show z.toNat = 45; omega)))]
  · rw [br_pos (by simp; omega)]
    have : zoneB l = (0, false) := by
      unfold zoneB
      split
      · simp at h5
      · rfl
    rw [this]; rfl
def e_zone : List AV → Option AV
  | [.v (.string s)] => some (pairIB (zoneB s.data.toList))
  | _ => none
theorem e_zone_ok (xs : List AV) (v : AV) (h : e_zone xs = some v) : PureCall X f_date_zone xs v := by
  unfold e_zone at h
  split at h
  · rename_i s
    cases h
    obtain ⟨l, rfl⟩ := exists_bs s
    rw [bs_list]
    exact pcdate_zone (tab_ok _ tbZ_ok) (t_zone l)
  · cases h
end Go.Proofs.YtmiffikcnkgcpaaGreatDoor
