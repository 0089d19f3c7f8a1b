/- Dates and days, told in plain numbers. -/
import Derived.Test.YtmiffikcnkgcpaaGreatDoorFnsA
set_option linter.unusedVariables false
set_option linter.unusedSimpArgs false
namespace Go.Proofs.YtmiffikcnkgcpaaGreatDoor
open Go Go.Ab

def thereI (y m d : Int) : Bool := decide (0 ≤ y ∧ y ≤ 9999 ∧ 1 ≤ m ∧ m ≤ 12 ∧ 1 ≤ d ∧ d ≤ daysI y m)

theorem t42 (y m d : Int) : R42 (tabK tb2) y m d = some (bv (thereI y m d)) := by
  unfold R42 thereI
  by_cases h1 : y ≥ 0
  · by_cases h2 : y ≤ 9999
    · by_cases h3 : m ≥ 1
      · by_cases h4 : m ≤ 12
        · by_cases h5 : d ≥ 1
          · rw [br_yesD h1, br_yesD h2, br_yesD h3, br_yesD h4, br_yesD h5, k2_58 ⟨h1, h3, h4⟩]
            simp only [optK_s, asInt_v, asBool_v]
            refine congrArg (fun b => some (bv b)) ?_
            simp only [decide_eq_decide]; omega
          · rw [br_yesD h1, br_yesD h2, br_yesD h3, br_yesD h4, br_noD h5, decide_eq_false (by omega)]; rfl
        · rw [br_yesD h1, br_yesD h2, br_yesD h3, br_noD h4, decide_eq_false (by omega)]; rfl
      · rw [br_yesD h1, br_yesD h2, br_noD h3, decide_eq_false (by omega)]; rfl
    · rw [br_yesD h1, br_noD h2, decide_eq_false (by omega)]; rfl
  · rw [br_noD h1, decide_eq_false (by omega)]; rfl
theorem t43 (y m d : Int) : R43 (tabK tb2) y m d = some (bv (thereI y m d)) := by
  unfold R43 thereI
  by_cases h1 : y ≥ 0
  · by_cases h2 : y ≤ 9999
    · by_cases h3 : m ≥ 1
      · by_cases h4 : m ≤ 12
        · by_cases h5 : d ≥ 1
          · rw [br_yesD h1, br_yesD h2, br_yesD h3, br_yesD h4, br_yesD h5, k2_41 h1]
            simp only [optK_s, asInt_v, asBool_v]
            refine congrArg (fun b => some (bv b)) ?_
            simp only [decide_eq_decide]; omega
          · rw [br_yesD h1, br_yesD h2, br_yesD h3, br_yesD h4, br_noD h5, decide_eq_false (by omega)]; rfl
        · rw [br_yesD h1, br_yesD h2, br_yesD h3, br_noD h4, decide_eq_false (by omega)]; rfl
      · rw [br_yesD h1, br_yesD h2, br_noD h3, decide_eq_false (by omega)]; rfl
    · rw [br_yesD h1, br_noD h2, decide_eq_false (by omega)]; rfl
  · rw [br_noD h1, decide_eq_false (by omega)]; rfl

theorem yday_range {y : Int} (h : 0 ≤ y) (h2 : y ≤ 10000) : -800000 ≤ yday y ∧ yday y ≤ 4000000 := by
  have := leapsI_range h h2; unfold yday; omega

/-- The loops of the reference's number. -/
def inv44_0 : S44_0 → Bool
  | .s0 y m n i => decide (0 ≤ y ∧ y ≤ 9999 ∧ 1 ≤ i ∧ i ≤ m ∧ m ≤ 12 ∧ -1000 ≤ n ∧ n + (mday y m - mday y i) ≤ 10000)
theorem i44_0 {y m n i : Int} (h : 0 ≤ y ∧ y ≤ 9999 ∧ 1 ≤ i ∧ i ≤ m ∧ m ≤ 12 ∧ -1000 ≤ n ∧ n + (mday y m - mday y i) ≤ 10000) : inv44_0 (.s0 y m n i) = true := decide_eq_true h
def out44_0' : S44_0 → O44_0
  | .s0 y m n i => .x0 y (n + (mday y m - mday y i))
theorem l44_0 : ∀ s o, lOf inv44_0 out44_0' s = some o → ∃ k, fuelRec (R44_0 (tabK tb2) some) k s = some o :=
  fuel_of inv44_0 out44_0' (fun | .s0 y m n i => (m - i).toNat) (by
    rintro ⟨y, m, n, i⟩ rec hi hrec
    have hi := of_decide_eq_true hi
    show R44_0 (tabK tb2) some rec (.s0 y m n i) = _
    simp only [R44_0]
    by_cases h : i < m
    · rw [br_yesD h, k2_41 hi.1]
      simp only [optK_s, asInt_v]
      have hs := mday_succ (y := y) (m := i) (by omega) (by omega)
      have hp := @daysI_pos y i
      have hmm := mday_mono (y := y) (a := i + 1) (b := m) (by omega) (by omega) (by omega)
      rw [w64_id (n := n + daysI y i) (by omega) (by omega), w64_id (n := i + 1) (by omega) (by omega)]
      rw [hrec _ (i44_0 (by omega)) (by show (m - (i + 1)).toNat < (m - i).toNat; omega)]
      show some (O44_0.x0 y _) = some (O44_0.x0 y _)
      congr 2; omega
    · rw [br_noD h]
      obtain rfl : i = m := by omega
      show some (O44_0.x0 y n) = some (O44_0.x0 y _)
      congr 2; omega)

def inv44_1 : S44_1 → Bool
  | .s0 y n i => decide (0 ≤ i ∧ i ≤ 10000 ∧ y ≤ 9999 ∧ -10000 ≤ n ∧ (i ≤ y → n + (yday y - yday i) ≤ 10000000) ∧ n ≤ 10000000)
theorem i44_1 {y n i : Int} (h : 0 ≤ i ∧ i ≤ 10000 ∧ y ≤ 9999 ∧ -10000 ≤ n ∧ (i ≤ y → n + (yday y - yday i) ≤ 10000000) ∧ n ≤ 10000000) : inv44_1 (.s0 y n i) = true := decide_eq_true h
def out44_1' : S44_1 → O44_1
  | .s0 y n i => .x0 y (if i < y then n + (yday y - yday i) else n)
theorem l44_1 : ∀ s o, lOf inv44_1 out44_1' s = some o → ∃ k, fuelRec (R44_1 (tabK tb2) some) k s = some o :=
  fuel_of inv44_1 out44_1' (fun | .s0 y n i => (y - i).toNat) (by
    rintro ⟨y, n, i⟩ rec hi hrec
    have hi := of_decide_eq_true hi
    show R44_1 (tabK tb2) some rec (.s0 y n i) = _
    simp only [R44_1]
    by_cases h : i < y
    · rw [br_yesD h, k2_40 hi.1]
      simp only [optK_s, asInt_v]
      have hs := yday_succ (y := i) (by omega)
      have hp := lengthI_pos i
      have hmm := yday_mono (a := i + 1) (b := y) (by omega) (by omega)
      rw [w64_id (n := n + lengthI i) (by omega) (by omega), w64_id (n := i + 1) (by omega) (by omega)]
      rw [hrec _ (i44_1 (by omega)) (by show (y - (i + 1)).toNat < (y - i).toNat; omega)]
      show some (O44_1.x0 y _) = some (O44_1.x0 y _)
      rw [if_pos h]
      congr 2; split
      · omega
      · obtain rfl : i + 1 = y := by omega
        omega
    · rw [br_noD h]
      show some (O44_1.x0 y n) = some (O44_1.x0 y _)
      rw [if_neg h])

def inv44_2 : S44_2 → Bool
  | .s0 n i => decide (0 ≤ i ∧ i ≤ 10000 ∧ n ≤ 10000000 ∧ -10000000 ≤ n ∧ (i < 1970 → -10000000 ≤ n + yday i))
theorem i44_2 {n i : Int} (h : 0 ≤ i ∧ i ≤ 10000 ∧ n ≤ 10000000 ∧ -10000000 ≤ n ∧ (i < 1970 → -10000000 ≤ n + yday i)) : inv44_2 (.s0 n i) = true := decide_eq_true h
def out44_2' : S44_2 → O44_2
  | .s0 n i => .x0 (if i < 1970 then n + yday i else n)
theorem l44_2 : ∀ s o, lOf inv44_2 out44_2' s = some o → ∃ k, fuelRec (R44_2 (tabK tb2) some) k s = some o :=
  fuel_of inv44_2 out44_2' (fun | .s0 n i => (1970 - i).toNat) (by
    rintro ⟨n, i⟩ rec hi hrec
    have hi := of_decide_eq_true hi
    show R44_2 (tabK tb2) some rec (.s0 n i) = _
    simp only [R44_2]
    by_cases h : i < 1970
    · rw [br_yesD h, k2_40 hi.1]
      simp only [optK_s, asInt_v]
      have hs := yday_succ (y := i) (by omega)
      have hp := lengthI_pos i
      have e70 : yday 1970 = 0 := by decide
      have hmm := yday_mono (a := i + 1) (b := 1970) (by omega) (by omega)
      rw [w64_id (n := n - lengthI i) (by omega) (by omega), w64_id (n := i + 1) (by omega) (by omega)]
      rw [hrec _ (i44_2 (by omega)) (by show (1970 - (i + 1)).toNat < (1970 - i).toNat; omega)]
      show some (O44_2.x0 _) = some (O44_2.x0 _)
      rw [if_pos h]
      congr 2; split
      · omega
      · obtain rfl : i = 1969 := by omega
        have : yday (1969 + 1) = 0 := by decide
        omega
    · rw [br_noD h]
      show some (O44_2.x0 n) = some (O44_2.x0 _)
      rw [if_neg h])

theorem t44 (y m d : Int) (hy : 0 ≤ y) (hy2 : y ≤ 9999) (hm : 1 ≤ m) (hm2 : m ≤ 12) (hd : 1 ≤ d) (hd2 : d ≤ 31) :
    R44 (tabK tb2) (lOf inv44_0 out44_0') (lOf inv44_1 out44_1') (lOf inv44_2 out44_2') y m d = some (iv (yday y + mday y m + d - 1)) := by
  unfold R44
  have e1 := mday_one y
  have hr := mday_range (y := y) hm (by omega)
  have e70 : yday 1970 = 0 := by decide
  have hyr := yday_range hy (by omega)
  rw [w64_id (n := d - 1) (by omega) (by omega), lOf_pos (i44_0 (by omega))]
  simp only [optK_s, out44_0', O44_0.k]
  rw [lOf_pos (i44_1 (by omega))]
  simp only [optK_s, out44_1', O44_1.k]
  by_cases h : y < 1970
  · have hmm := yday_mono (a := y) (b := 1970) (by omega) (by omega)
    rw [if_neg (by omega), lOf_pos (i44_2 (by omega))]
    simp only [optK_s, out44_2', O44_2.k]
    rw [if_pos h]
    exact some_iv (by omega)
  · have hmm := yday_mono (a := 1970) (b := y) (by omega) (by omega)
    by_cases h70 : 1970 < y
    · rw [if_pos h70, lOf_pos (i44_2 (by omega))]
      simp only [optK_s, out44_2', O44_2.k]
      rw [if_neg h]
      exact some_iv (by omega)
    · obtain rfl : y = 1970 := by omega
      rw [if_neg h70, lOf_pos (i44_2 (by omega))]
      simp only [optK_s, out44_2', O44_2.k]
      exact some_iv (by simp; omega)

/-- The loops of the program's date. -/
def inv16_0 : S16_0 → Bool
  | .s0 day y => decide (1970 ≤ y ∧ y ≤ 9999)
theorem i16_0 {day y : Int} (h : 1970 ≤ y ∧ y ≤ 9999) : inv16_0 (.s0 day y) = true := decide_eq_true h
def out16_0' : S16_0 → O16_0
  | .s0 day y => .x0 day (yearGo day (9999 - y).toNat y)
theorem l16_0 : ∀ s o, lOf inv16_0 out16_0' s = some o → ∃ k, fuelRec (R16_0 (tabK tb2) some) k s = some o :=
  fuel_of inv16_0 out16_0' (fun | .s0 day y => (9999 - y).toNat) (by
    rintro ⟨day, y⟩ rec hi hrec
    have hi := of_decide_eq_true hi
    show R16_0 (tabK tb2) some rec (.s0 day y) = _
    simp only [R16_0]
    by_cases h : y < 9999
    · rw [br_yesD h, w64_id (n := y + 1) (by omega) (by omega), k2_39 (by omega)]
      simp only [optK_s, asInt_v, asBool_v]
      obtain ⟨n, hn⟩ : ∃ n, (9999 - y).toNat = n + 1 := ⟨(9999 - y).toNat - 1, by omega⟩
      have hn' : (9999 - (y + 1)).toNat = n := by omega
      by_cases hc : yday (y + 1) ≤ day
      · rw [br_yesD (by rw [mday_one]; omega), hrec _ (i16_0 (by omega)) (by show (9999 - (y + 1)).toNat < (9999 - y).toNat; omega)]
        simp only [out16_0', hn, hn', yearGo, if_pos hc]
      · rw [br_noD (by rw [mday_one]; omega)]
        simp only [out16_0', hn, yearGo, if_neg hc]
    · rw [br_noD h]
      simp only [optK_s, asBool_v, br_f]
      obtain rfl : y = 9999 := by omega
      rfl)

def inv16_1 : S16_1 → Bool
  | .s0 day y m => decide (0 ≤ y ∧ y ≤ 9999 ∧ 1 ≤ m ∧ m ≤ 12)
theorem i16_1 {day y m : Int} (h : 0 ≤ y ∧ y ≤ 9999 ∧ 1 ≤ m ∧ m ≤ 12) : inv16_1 (.s0 day y m) = true := decide_eq_true h
def out16_1' : S16_1 → O16_1
  | .s0 day y m => .x0 day y (monthGo day y (12 - m).toNat m)
theorem l16_1 : ∀ s o, lOf inv16_1 out16_1' s = some o → ∃ k, fuelRec (R16_1 (tabK tb2) some) k s = some o :=
  fuel_of inv16_1 out16_1' (fun | .s0 day y m => (12 - m).toNat) (by
    rintro ⟨day, y, m⟩ rec hi hrec
    have hi := of_decide_eq_true hi
    show R16_1 (tabK tb2) some rec (.s0 day y m) = _
    simp only [R16_1]
    by_cases h : m < 12
    · rw [br_yesD h, w64_id (n := m + 1) (by omega) (by omega), k2_39 (by omega)]
      simp only [optK_s, asInt_v, asBool_v]
      obtain ⟨n, hn⟩ : ∃ n, (12 - m).toNat = n + 1 := ⟨(12 - m).toNat - 1, by omega⟩
      have hn' : (12 - (m + 1)).toNat = n := by omega
      by_cases hc : yday y + mday y (m + 1) ≤ day
      · rw [br_yesD (by omega), hrec _ (i16_1 (by omega)) (by show (12 - (m + 1)).toNat < (12 - m).toNat; omega)]
        simp only [out16_1', hn, hn', monthGo, if_pos hc]
      · rw [br_noD (by omega)]
        simp only [out16_1', hn, monthGo, if_neg hc]
    · rw [br_noD h]
      simp only [optK_s, asBool_v, br_f]
      obtain rfl : m = 12 := by omega
      rfl)

def triple (x : Int × Int × Int) : AV := .tup [iv x.1, iv x.2.1, iv x.2.2]

theorem t16 (day : Int) : R16 (tabK tb2) (lOf inv16_0 out16_0') (lOf inv16_1 out16_1') day = some (triple (if day < 0 ∨ day > 2932896 then (0, 0, 0) else civP day)) := by
  unfold R16
  by_cases h1 : day < 0
  · rw [br_yesD h1, if_pos (.inl h1)]; rfl
  · rw [br_noD h1]
    simp only [optK_s, asBool_v]
    by_cases h2 : day > 2932896
    · rw [br_yesD h2, if_pos (.inr h2)]; rfl
    · rw [br_noD h2, if_neg (by omega)]
      obtain ⟨a, b, c⟩ := start_ok (day := day) (by omega) (by omega)
      have hy := yearGo_spec day _ (1970 + day / 366) rfl a b c (by omega)
      have hm := monthGo_spec day (yearGo day (9999 - (1970 + day / 366)).toNat (1970 + day / 366)) hy.2.2.2 (by omega) 11 1 (by decide) (by omega) (by omega) (by rw [mday_one]; omega)
      have hyr := yday_range (y := yearGo day (9999 - (1970 + day / 366)).toNat (1970 + day / 366)) (by omega) (by omega)
      have hmr := mday_range (y := yearGo day (9999 - (1970 + day / 366)).toNat (1970 + day / 366)) (m := monthGo day (yearGo day (9999 - (1970 + day / 366)).toNat (1970 + day / 366)) 11 1) (by omega) (by omega)
      rw [tdivP (by omega), w64_id (n := day / 366) (by omega) (by omega), w64_id (n := 1970 + day / 366) (by omega) (by omega), lOf_pos (i16_0 (by omega))]
      simp only [optK_s, out16_0', O16_0.k]
      rw [lOf_pos (i16_1 (by omega))]
      simp only [optK_s, out16_1', O16_1.k]
      rw [show (12 - (1 : Int)).toNat = 11 from rfl]
      rw [k2_39 (by omega)]
      simp only [optK_s, asInt_v]
      unfold triple civP
      simp only []
      congr 6
      rw [w64_id (n := day - _) (by omega) (by omega), w64_id (by omega) (by omega)]
      omega

/-- The loops of the reference's date. -/
def inv17_0 : S17_0 → Bool
  | .s0 r y m => decide (1970 ≤ y ∧ y ≤ 9999 ∧ 0 ≤ r ∧ r + yday y ≤ 2932896)
theorem i17_0 {r y m : Int} (h : 1970 ≤ y ∧ y ≤ 9999 ∧ 0 ≤ r ∧ r + yday y ≤ 2932896) : inv17_0 (.s0 r y m) = true := decide_eq_true h
def out17_0' : S17_0 → O17_0
  | .s0 r y m => .x0 (civY (9999 - y).toNat r y).1 (civY (9999 - y).toNat r y).2 m
theorem l17_0 : ∀ s o, lOf inv17_0 out17_0' s = some o → ∃ k, fuelRec (R17_0 (tabK tb2) some) k s = some o :=
  fuel_of inv17_0 out17_0' (fun | .s0 r y m => (9999 - y).toNat) (by
    rintro ⟨r, y, m⟩ rec hi hrec
    have hi := of_decide_eq_true hi
    show R17_0 (tabK tb2) some rec (.s0 r y m) = _
    simp only [R17_0]
    have hp := lengthI_pos y
    have hs := yday_succ (y := y) (by omega)
    have hyr := yday_range (y := y) (by omega) (by omega)
    rw [k2_40 (by omega)]
    simp only [optK_s, asInt_v]
    by_cases h : r ≥ lengthI y
    · have hy : y < 9999 := by
        rcases Int.lt_or_eq_of_le hi.2.1 with h9 | h9
        · exact h9
        · subst h9
          have : yday (9999 + 1) = 2932897 := by decide
          omega
      obtain ⟨n, hn⟩ : ∃ n, (9999 - y).toNat = n + 1 := ⟨(9999 - y).toNat - 1, by omega⟩
      have hn' : (9999 - (y + 1)).toNat = n := by omega
      rw [br_yesD h, w64_id (n := y + 1) (by omega) (by omega), w64_id (n := r - lengthI y) (by omega) (by omega), hrec _ (i17_0 (by omega)) (by show (9999 - (y + 1)).toNat < (9999 - y).toNat; omega)]
      simp only [out17_0', hn, hn', civY, if_pos h]
    · rw [br_noD h]
      cases hn : (9999 - y).toNat with
      | zero => simp only [out17_0', hn, civY]
      | succ n => simp only [out17_0', hn, civY, if_neg h])

def inv17_1 : S17_1 → Bool
  | .s0 r y m => decide (0 ≤ y ∧ y ≤ 9999 ∧ 1 ≤ m ∧ m ≤ 12 ∧ 0 ≤ r ∧ r + mday y m < lengthI y)
theorem i17_1 {r y m : Int} (h : 0 ≤ y ∧ y ≤ 9999 ∧ 1 ≤ m ∧ m ≤ 12 ∧ 0 ≤ r ∧ r + mday y m < lengthI y) : inv17_1 (.s0 r y m) = true := decide_eq_true h
def out17_1' : S17_1 → O17_1
  | .s0 r y m => .x0 (civM y (12 - m).toNat r m).1 y (civM y (12 - m).toNat r m).2
theorem l17_1 : ∀ s o, lOf inv17_1 out17_1' s = some o → ∃ k, fuelRec (R17_1 (tabK tb2) some) k s = some o :=
  fuel_of inv17_1 out17_1' (fun | .s0 r y m => (12 - m).toNat) (by
    rintro ⟨r, y, m⟩ rec hi hrec
    have hi := of_decide_eq_true hi
    show R17_1 (tabK tb2) some rec (.s0 r y m) = _
    simp only [R17_1]
    have hp := @daysI_pos y m
    have hs := mday_succ (y := y) (m := m) (by omega) (by omega)
    have hl := lengthI_pos y
    have hmr := mday_range (y := y) (m := m) (by omega) (by omega)
    rw [k2_41 (by omega)]
    simp only [optK_s, asInt_v]
    by_cases h : r ≥ daysI y m
    · have hm : m < 12 := by
        rcases Int.lt_or_eq_of_le hi.2.2.2.1 with h9 | h9
        · exact h9
        · subst h9
          have : mday y (12 + 1) = lengthI y := mday_end y
          omega
      obtain ⟨n, hn⟩ : ∃ n, (12 - m).toNat = n + 1 := ⟨(12 - m).toNat - 1, by omega⟩
      have hn' : (12 - (m + 1)).toNat = n := by omega
      rw [br_yesD h, w64_id (n := m + 1) (by omega) (by omega), w64_id (n := r - daysI y m) (by omega) (by omega), hrec _ (i17_1 (by omega)) (by show (12 - (m + 1)).toNat < (12 - m).toNat; omega)]
      simp only [out17_1', hn, hn', civM, if_pos h]
    · rw [br_noD h]
      cases hn : (12 - m).toNat with
      | zero => simp only [out17_1', hn, civM]
      | succ n => simp only [out17_1', hn, civM, if_neg h])

theorem t17 (day : Int) : R17 (tabK tb2) (lOf inv17_0 out17_0') (lOf inv17_1 out17_1') day = some (triple (if day < 0 ∨ day > 2932896 then (0, 0, 0) else civR day)) := by
  unfold R17
  by_cases h1 : day < 0
  · rw [br_yesD h1, if_pos (.inl h1)]; rfl
  · rw [br_noD h1]
    simp only [optK_s, asBool_v]
    by_cases h2 : day > 2932896
    · rw [br_yesD h2, if_pos (.inr h2)]; rfl
    · rw [br_noD h2, if_neg (by omega)]
      have e0 : yday 1970 = 0 := by decide
      have hy := civY_spec 8029 day 1970 (by decide) (by omega) (by omega) (by omega) (by omega)
      have hm := civM_spec (civY 8029 day 1970).2 11 (civY 8029 day 1970).1 1 (by decide) (by omega) (by omega) hy.1 (by rw [mday_one]; omega)
      have hp := @daysI_pos (civY 8029 day 1970).2 (civM (civY 8029 day 1970).2 11 (civY 8029 day 1970).1 1).2
      rw [lOf_pos (i17_0 (by omega))]
      simp only [optK_s, out17_0', O17_0.k]
      rw [show (9999 - (1970 : Int)).toNat = 8029 from rfl]
      rw [lOf_pos (i17_1 (by rw [mday_one]; omega))]
      simp only [optK_s, out17_1', O17_1.k]
      rw [show (12 - (1 : Int)).toNat = 11 from rfl, w64_id (by omega) (by omega)]
      rfl

def e42 : List AV → Option AV
  | [.v (.int .i64 y), .v (.int .i64 m), .v (.int .i64 d)] => some (bv (thereI y m d))
  | _ => none
def e44 : List AV → Option AV
  | [.v (.int .i64 y), .v (.int .i64 m), .v (.int .i64 d)] => br (decide (0 ≤ y ∧ y ≤ 9999 ∧ 1 ≤ m ∧ m ≤ 12 ∧ 1 ≤ d ∧ d ≤ 31)) (some (iv (yday y + mday y m + d - 1))) none
  | _ => none
/-- A day's date. -/
def civI (day : Int) : Int × Int × Int := if day < 0 ∨ day > 2932896 then (0, 0, 0) else civP day
def e16 : List AV → Option AV
  | [.v (.int .i64 day)] => some (triple (civI day))
  | _ => none
theorem e42_ok (xs : List AV) (v : AV) (h : e42 xs = some v) : PureCall X 42 xs v := by
  unfold e42 at h
  split at h
  · cases h; exact pc42 (tab_ok _ tb2_ok) (t42 _ _ _)
  · cases h
theorem e43_ok (xs : List AV) (v : AV) (h : e42 xs = some v) : PureCall X 43 xs v := by
  unfold e42 at h
  split at h
  · cases h; exact pc43 (tab_ok _ tb2_ok) (t43 _ _ _)
  · cases h
theorem e44_ok (xs : List AV) (v : AV) (h : e44 xs = some v) : PureCall X 44 xs v := by
  unfold e44 at h
  split at h
  · obtain ⟨h1, h2⟩ := br_yes h
    cases h2
    obtain ⟨a, b, c, d, e, f⟩ := of_decide_eq_true h1
    exact pc44 (tab_ok _ tb2_ok) l44_0 l44_1 l44_2 (t44 _ _ _ a b c d e f)
  · cases h
theorem e16_ok (xs : List AV) (v : AV) (h : e16 xs = some v) : PureCall X 16 xs v := by
  unfold e16 at h
  split at h
  · cases h; exact pc16 (tab_ok _ tb2_ok) l16_0 l16_1 (t16 _)
  · cases h
theorem e17_ok (xs : List AV) (v : AV) (h : e16 xs = some v) : PureCall X 17 xs v := by
  unfold e16 at h
  split at h
  · cases h
    rename_i day
    refine pc17 (tab_ok _ tb2_ok) l17_0 l17_1 ((t17 _).trans ?_)
    unfold civI
    by_cases hc : day < 0 ∨ day > 2932896
    · rw [if_pos hc, if_pos hc]
    · rw [if_neg hc, if_neg hc, civ_same (by omega) (by omega)]
  · cases h
def tb3 : Tab := (42, e42) :: (43, e42) :: (44, e44) :: (16, e16) :: (17, e16) :: tb2
theorem tb3_ok : TabOk X tb3 := tab_cons e42_ok (tab_cons e43_ok (tab_cons e44_ok (tab_cons e16_ok (tab_cons e17_ok tb2_ok))))
theorem k3_39 {y m d : Int} (h : 0 ≤ y ∧ y ≤ 9999 ∧ 1 ≤ m ∧ m ≤ 12 ∧ -1000000 ≤ d ∧ d ≤ 1000000) : tabK tb3 39 [iv y, iv m, iv d] = some (iv (yday y + mday y m + d - 1)) := br_pos (decide_eq_true h)
theorem k3_42 {y m d : Int} : tabK tb3 42 [iv y, iv m, iv d] = some (bv (thereI y m d)) := rfl
theorem k3_43 {y m d : Int} : tabK tb3 43 [iv y, iv m, iv d] = some (bv (thereI y m d)) := rfl
theorem k3_44 {y m d : Int} (h : 0 ≤ y ∧ y ≤ 9999 ∧ 1 ≤ m ∧ m ≤ 12 ∧ 1 ≤ d ∧ d ≤ 31) : tabK tb3 44 [iv y, iv m, iv d] = some (iv (yday y + mday y m + d - 1)) := br_pos (decide_eq_true h)
theorem k3_16 {day : Int} : tabK tb3 16 [iv day] = some (triple (civI day)) := rfl
theorem k3_17 {day : Int} : tabK tb3 17 [iv day] = some (triple (civI day)) := rfl

/-- A date's day. -/
def numI (y m d : Int) : Int := match decide (y < 1970) || !thereI y m d with
  | true => -1
  | false => yday y + mday y m + d - 1

theorem there_day {y m d : Int} (h : thereI y m d = true) : 0 ≤ y ∧ y ≤ 9999 ∧ 1 ≤ m ∧ m ≤ 12 ∧ 1 ≤ d ∧ d ≤ 31 := by
  have := of_decide_eq_true h
  have := @daysI_pos y m
  omega

theorem t18 (y m d : Int) : R18 (tabK tb3) y m d = some (iv (numI y m d)) := by
  unfold R18 numI
  rw [k3_42]
  simp only [optK_s, asBool_v]
  by_cases h : y < 1970
  · rw [br_yesD h]; simp [h, optK_s, asBool_v, br_t]
  · rw [br_noD h]
    simp only [optK_s, asBool_v, h, decide_false, Bool.false_or]
    cases ht : thereI y m d with
    | false => rfl
    | true =>
      have := there_day ht
      rw [k3_39 (by omega)]; rfl
theorem t19 (y m d : Int) : R19 (tabK tb3) y m d = some (iv (numI y m d)) := by
  unfold R19 numI
  rw [k3_43]
  simp only [optK_s, asBool_v]
  by_cases h : y < 1970
  · rw [br_yesD h]; simp [h, optK_s, asBool_v, br_t]
  · rw [br_noD h]
    simp only [optK_s, asBool_v, h, decide_false, Bool.false_or]
    cases ht : thereI y m d with
    | false => rfl
    | true =>
      have := there_day ht
      rw [k3_44 (by omega)]; rfl
def e18 : List AV → Option AV
  | [.v (.int .i64 y), .v (.int .i64 m), .v (.int .i64 d)] => some (iv (numI y m d))
  | _ => none
theorem e18_ok (xs : List AV) (v : AV) (h : e18 xs = some v) : PureCall X 18 xs v := by
  unfold e18 at h
  split at h
  · cases h; exact pc18 (tab_ok _ tb3_ok) (t18 _ _ _)
  · cases h
theorem e19_ok (xs : List AV) (v : AV) (h : e18 xs = some v) : PureCall X 19 xs v := by
  unfold e18 at h
  split at h
  · cases h; exact pc19 (tab_ok _ tb3_ok) (t19 _ _ _)
  · cases h
end Go.Proofs.YtmiffikcnkgcpaaGreatDoor
