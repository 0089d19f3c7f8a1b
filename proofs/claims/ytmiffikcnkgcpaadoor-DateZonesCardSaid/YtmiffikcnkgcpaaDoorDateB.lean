import Derived.Test.YtmiffikcnkgcpaaDoorDateA
set_option linter.unusedVariables false
set_option linter.unusedSimpArgs false
set_option maxRecDepth 100000
namespace Go.Proofs.YtmiffikcnkgcpaaDoor
/- Dates and days, told in plain numbers. -/
set_option linter.unusedVariables false
set_option linter.unusedSimpArgs false
open Go Go.Ab

def thereI (y m d : Int) : Bool := decide (0 ≤ y ∧ y ≤ 9999 ∧ 1 ≤ m ∧ m ≤ 12 ∧ 1 ≤ d ∧ d ≤ daysI y m)

theorem t42 (y m d : Int) : Rdate_there (tabK tb2) y m d = some (bv (thereI y m d)) := by
  unfold Rdate_there thereI
  by_cases h1 : y ≥ 0
  · by_cases h2 : y ≤ 9999
    · by_cases h3 : m ≥ 1
      · by_cases h4 : m ≤ 12
        · by_cases h5 : d ≥ 1
          · rw [br_yesD h1, br_yesD h2, br_yesD h3, br_yesD h4, br_yesD h5, k2_58 ⟨h1, h3, h4⟩]
            simp only [optK_s, asInt_v, asBool_v]
            refine congrArg (fun b => some (bv b)) ?_
            simp only [decide_eq_decide]; omega
          · rw [br_yesD h1, br_yesD h2, br_yesD h3, br_yesD h4, br_noD h5, decide_eq_false (by omega)]; rfl
        · rw [br_yesD h1, br_yesD h2, br_yesD h3, br_noD h4, decide_eq_false (by omega)]; rfl
      · rw [br_yesD h1, br_yesD h2, br_noD h3, decide_eq_false (by omega)]; rfl
    · rw [br_yesD h1, br_noD h2, decide_eq_false (by omega)]; rfl
  · rw [br_noD h1, decide_eq_false (by omega)]; rfl
theorem yday_range {y : Int} (h : 0 ≤ y) (h2 : y ≤ 10000) : -800000 ≤ yday y ∧ yday y ≤ 4000000 := by
  have := leapsI_range h h2; unfold yday; omega

/-- The loops of the program's date. -/
def inv16_0 : Sdate_Civil_0 → Bool
  | .s0 day y => decide (1970 ≤ y ∧ y ≤ 9999)
theorem i16_0 {day y : Int} (h : 1970 ≤ y ∧ y ≤ 9999) : inv16_0 (.s0 day y) = true := decide_eq_true h
def out16_0' : Sdate_Civil_0 → Odate_Civil_0
  | .s0 day y => .x0 day (yearGo day (9999 - y).toNat y)
theorem l16_0 : ∀ s o, lOf inv16_0 out16_0' s = some o → ∃ k, fuelRec (Rdate_Civil_0 (tabK tb2) some) k s = some o :=
  fuel_of inv16_0 out16_0' (fun | .s0 day y => (9999 - y).toNat) (by
    rintro ⟨day, y⟩ rec hi hrec
    have hi := of_decide_eq_true hi
    show Rdate_Civil_0 (tabK tb2) some rec (.s0 day y) = _
    simp only [Rdate_Civil_0]
    by_cases h : y < 9999
    · rw [br_yesD h, w64_id (n := y + 1) (by omega) (by omega), k2_39 (by omega)]
      simp only [optK_s, asInt_v, asBool_v]
      obtain ⟨n, hn⟩ : ∃ n, (9999 - y).toNat = n + 1 := ⟨(9999 - y).toNat - 1, by omega⟩
      have hn' : (9999 - (y + 1)).toNat = n := by omega
      by_cases hc : yday (y + 1) ≤ day
      · rw [br_yesD (by rw [mday_one]; omega), hrec _ (i16_0 (by omega)) (by show (9999 - (y + 1)).toNat < (9999 - y).toNat; omega)]
        simp only [out16_0', hn, hn', yearGo, if_pos hc]
      · rw [br_noD (by rw [mday_one]; omega)]
        simp only [out16_0', hn, yearGo, if_neg hc]
    · rw [br_noD h]
      simp only [optK_s, asBool_v, br_f]
      obtain rfl : y = 9999 := by omega
      rfl)

def inv16_1 : Sdate_Civil_1 → Bool
  | .s0 day y m => decide (0 ≤ y ∧ y ≤ 9999 ∧ 1 ≤ m ∧ m ≤ 12)
theorem i16_1 {day y m : Int} (h : 0 ≤ y ∧ y ≤ 9999 ∧ 1 ≤ m ∧ m ≤ 12) : inv16_1 (.s0 day y m) = true := decide_eq_true h
def out16_1' : Sdate_Civil_1 → Odate_Civil_1
  | .s0 day y m => .x0 day y (monthGo day y (12 - m).toNat m)
theorem l16_1 : ∀ s o, lOf inv16_1 out16_1' s = some o → ∃ k, fuelRec (Rdate_Civil_1 (tabK tb2) some) k s = some o :=
  fuel_of inv16_1 out16_1' (fun | .s0 day y m => (12 - m).toNat) (by
    rintro ⟨day, y, m⟩ rec hi hrec
    have hi := of_decide_eq_true hi
    show Rdate_Civil_1 (tabK tb2) some rec (.s0 day y m) = _
    simp only [Rdate_Civil_1]
    by_cases h : m < 12
    · rw [br_yesD h, w64_id (n := m + 1) (by omega) (by omega), k2_39 (by omega)]
      simp only [optK_s, asInt_v, asBool_v]
      obtain ⟨n, hn⟩ : ∃ n, (12 - m).toNat = n + 1 := ⟨(12 - m).toNat - 1, by omega⟩
      have hn' : (12 - (m + 1)).toNat = n := by omega
      by_cases hc : yday y + mday y (m + 1) ≤ day
      · rw [br_yesD (by omega), hrec _ (i16_1 (by omega)) (by show (12 - (m + 1)).toNat < (12 - m).toNat; omega)]
        simp only [out16_1', hn, hn', monthGo, if_pos hc]
      · rw [br_noD (by omega)]
        simp only [out16_1', hn, monthGo, if_neg hc]
    · rw [br_noD h]
      simp only [optK_s, asBool_v, br_f]
      obtain rfl : m = 12 := by omega
      rfl)

def triple (x : Int × Int × Int) : AV := .tup [iv x.1, iv x.2.1, iv x.2.2]

theorem t16 (day : Int) : Rdate_Civil (tabK tb2) (lOf inv16_0 out16_0') (lOf inv16_1 out16_1') day = some (triple (if day < 0 ∨ day > 2932896 then (0, 0, 0) else civP day)) := by
  unfold Rdate_Civil
  by_cases h1 : day < 0
  · rw [br_yesD h1, if_pos (.inl h1)]; rfl
  · rw [br_noD h1]
    simp only [optK_s, asBool_v]
    by_cases h2 : day > 2932896
    · rw [br_yesD h2, if_pos (.inr h2)]; rfl
    · rw [br_noD h2, if_neg (by omega)]
      obtain ⟨a, b, c⟩ := start_ok (day := day) (by omega) (by omega)
      have hy := yearGo_spec day _ (1970 + day / 366) rfl a b c (by omega)
      have hm := monthGo_spec day (yearGo day (9999 - (1970 + day / 366)).toNat (1970 + day / 366)) hy.2.2.2 (by omega) 11 1 (by decide) (by omega) (by omega) (by rw [mday_one]; omega)
      have hyr := yday_range (y := yearGo day (9999 - (1970 + day / 366)).toNat (1970 + day / 366)) (by omega) (by omega)
      have hmr := mday_range (y := yearGo day (9999 - (1970 + day / 366)).toNat (1970 + day / 366)) (m := monthGo day (yearGo day (9999 - (1970 + day / 366)).toNat (1970 + day / 366)) 11 1) (by omega) (by omega)
      rw [tdivP (by omega), w64_id (n := day / 366) (by omega) (by omega), w64_id (n := 1970 + day / 366) (by omega) (by omega), lOf_pos (i16_0 (by omega))]
      simp only [optK_s, out16_0', Odate_Civil_0.k]
      rw [lOf_pos (i16_1 (by omega))]
      simp only [optK_s, out16_1', Odate_Civil_1.k]
      rw [show (12 - (1 : Int)).toNat = 11 from rfl]
      rw [k2_39 (by omega)]
      simp only [optK_s, asInt_v]
      unfold triple civP
      simp only []
      congr 6
      rw [w64_id (n := day - _) (by omega) (by omega), w64_id (by omega) (by omega)]
      omega

def e42 : List AV → Option AV
  | [.v (.int .i64 y), .v (.int .i64 m), .v (.int .i64 d)] => some (bv (thereI y m d))
  | _ => none
/-- A day's date. -/
def civI (day : Int) : Int × Int × Int := if day < 0 ∨ day > 2932896 then (0, 0, 0) else civP day
def e16 : List AV → Option AV
  | [.v (.int .i64 day)] => some (triple (civI day))
  | _ => none
theorem e42_ok (xs : List AV) (v : AV) (h : e42 xs = some v) : PureCall X f_date_there xs v := by
  unfold e42 at h
  split at h
  · cases h; exact pcdate_there (tab_ok _ tb2_ok) (t42 _ _ _)
  · cases h
theorem e16_ok (xs : List AV) (v : AV) (h : e16 xs = some v) : PureCall X f_date_Civil xs v := by
  unfold e16 at h
  split at h
  · cases h; exact pcdate_Civil (tab_ok _ tb2_ok) l16_0 l16_1 (t16 _)
  · cases h
def tb3 : Tab := (f_date_there, e42) :: (f_date_Civil, e16) :: tb2
theorem tb3_ok : TabOk X tb3 := tab_cons e42_ok (tab_cons e16_ok tb2_ok)
theorem k3_39 {y m d : Int} (h : 0 ≤ y ∧ y ≤ 9999 ∧ 1 ≤ m ∧ m ≤ 12 ∧ -1000000 ≤ d ∧ d ≤ 1000000) : tabK tb3 f_date_count [iv y, iv m, iv d] = some (iv (yday y + mday y m + d - 1)) := br_pos (decide_eq_true h)
theorem k3_42 {y m d : Int} : tabK tb3 f_date_there [iv y, iv m, iv d] = some (bv (thereI y m d)) := rfl
theorem k3_16 {day : Int} : tabK tb3 f_date_Civil [iv day] = some (triple (civI day)) := rfl
/-- A date's day. -/
def numI (y m d : Int) : Int := match decide (y < 1970) || !thereI y m d with
  | true => -1
  | false => yday y + mday y m + d - 1

theorem there_day {y m d : Int} (h : thereI y m d = true) : 0 ≤ y ∧ y ≤ 9999 ∧ 1 ≤ m ∧ m ≤ 12 ∧ 1 ≤ d ∧ d ≤ 31 := by
  have := of_decide_eq_true h
  have := @daysI_pos y m
  omega

theorem t18 (y m d : Int) : Rdate_Number (tabK tb3) y m d = some (iv (numI y m d)) := by
  unfold Rdate_Number numI
  rw [k3_42]
  simp only [optK_s, asBool_v]
  by_cases h : y < 1970
  · rw [br_yesD h]; simp [h, optK_s, asBool_v, br_t]
  · rw [br_noD h]
    simp only [optK_s, asBool_v, h, decide_false, Bool.false_or]
    cases ht : thereI y m d with
    | false => rfl
    | true =>
      have := there_day ht
      rw [k3_39 (by omega)]; rfl
def e18 : List AV → Option AV
  | [.v (.int .i64 y), .v (.int .i64 m), .v (.int .i64 d)] => some (iv (numI y m d))
  | _ => none
theorem e18_ok (xs : List AV) (v : AV) (h : e18 xs = some v) : PureCall X f_date_Number xs v := by
  unfold e18 at h
  split at h
  · cases h; exact pcdate_Number (tab_ok _ tb3_ok) (t18 _ _ _)
  · cases h
end Go.Proofs.YtmiffikcnkgcpaaDoor
