/- The reference: calendars, numbers, clocks. -/
import Derived.Test.YtmiffikcnkgcpaaGreatDoorDtTwo
set_option linter.unusedVariables false
set_option linter.unusedSimpArgs false
set_option maxRecDepth 100000
namespace Go.Proofs.YtmiffikcnkgcpaaGreatDoor
open Go Go.Ab


theorem t57 (K : PureK) (y : Int) (h : 0 ≤ y) : Rref07_leap K y = some (bv (leapI y)) := by
  unfold Rref07_leap leapI
  rw [tmodP h, tmodP h, tmodP h]
  cases h4 : (y % 4 == 0)
  · have : (y % 400 == 0) = false := by simp at h4 ⊢; omega
    rw [this]; rfl
  · cases (y % 100 != 0) <;> rfl
theorem e57_ok (xs : List AV) (v : AV) (h : e56 xs = some v) : PureCall X f_ref07_leap xs v := by
  unfold e56 at h
  split at h
  · obtain ⟨h1, h2⟩ := br_yes h
    cases h2
    exact pcref07_leap ok_nil (t57 _ _ (by simpa using h1))
  · cases h
def tr1 : Tab := [(f_ref07_leap, e56)]
theorem tr1_ok : TabOk X tr1 := tab_cons e57_ok tab_nil
theorem k1_57 {y : Int} (h : 0 ≤ y) : tabK tr1 f_ref07_leap [iv y] = some (bv (leapI y)) := br_pos (decide_eq_true h)
theorem t40 (y : Int) (hy : 0 ≤ y) : Rref07_length (tabK tr1) y = some (iv (lengthI y)) := by
  unfold Rref07_length lengthI li
  rw [k1_57 hy]
  simp only [optK_s, asBool_v]
  cases leapI y <;> rfl

theorem t41 (y m : Int) (hy : 0 ≤ y) : Rref07_days (tabK tr1) y m = some (iv (daysI y m)) := by
  unfold Rref07_days daysI li
  rw [k1_57 hy]
  simp only [optK_s, asBool_v]
  by_cases h2 : m = 2
  · subst h2; cases leapI y <;> rfl
  · rw [if_neg h2, br_neg (by simpa using h2)]
    by_cases h4 : m = 4
    · subst h4; rfl
    · rw [br_neg (b := m == 4) (by simpa using h4)]
      by_cases h6 : m = 6
      · subst h6; rfl
      · rw [br_neg (b := m == 6) (by simpa using h6)]
        by_cases h9 : m = 9
        · subst h9; rfl
        · rw [br_neg (b := m == 9) (by simpa using h9)]
          by_cases h11 : m = 11
          · subst h11; rfl
          · have : (m == 11) = false := by simpa using h11
            rw [this, if_neg (by omega)]; rfl

def e40 : List AV → Option AV
  | [.v (.int .i64 y)] => br (decide (0 ≤ y)) (some (iv (lengthI y))) none
  | _ => none
def e41 : List AV → Option AV
  | [.v (.int .i64 y), .v (.int .i64 m)] => br (decide (0 ≤ y)) (some (iv (daysI y m))) none
  | _ => none
theorem e40_ok (xs : List AV) (v : AV) (h : e40 xs = some v) : PureCall X f_ref07_length xs v := by
  unfold e40 at h
  split at h
  · obtain ⟨h1, h2⟩ := br_yes h
    cases h2
    exact pcref07_length (tab_ok _ tr1_ok) (t40 _ (of_decide_eq_true h1))
  · cases h
theorem e41_ok (xs : List AV) (v : AV) (h : e41 xs = some v) : PureCall X f_ref07_days xs v := by
  unfold e41 at h
  split at h
  · obtain ⟨h1, h2⟩ := br_yes h
    cases h2
    exact pcref07_days (tab_ok _ tr1_ok) (t41 _ _ (of_decide_eq_true h1))
  · cases h
def tr2 : Tab := [(f_ref07_length, e40), (f_ref07_days, e41)]
theorem tr2_ok : TabOk X tr2 := tab_cons e40_ok (tab_cons e41_ok tab_nil)
theorem k2_40 {y : Int} (h : 0 ≤ y) : tabK tr2 f_ref07_length [iv y] = some (iv (lengthI y)) := br_pos (decide_eq_true h)
theorem k2_41 {y m : Int} (h : 0 ≤ y) : tabK tr2 f_ref07_days [iv y, iv m] = some (iv (daysI y m)) := br_pos (decide_eq_true h)
theorem t43 (y m d : Int) : Rref07_there (tabK tr2) y m d = some (bv (thereI y m d)) := by
  unfold Rref07_there thereI
  by_cases h1 : y ≥ 0
  · by_cases h2 : y ≤ 9999
    · by_cases h3 : m ≥ 1
      · by_cases h4 : m ≤ 12
        · by_cases h5 : d ≥ 1
          · rw [br_yesD h1, br_yesD h2, br_yesD h3, br_yesD h4, br_yesD h5, k2_41 h1]
            simp only [optK_s, asInt_v, asBool_v]
            refine congrArg (fun b => some (bv b)) ?_
            simp only [decide_eq_decide]; omega
          · rw [br_yesD h1, br_yesD h2, br_yesD h3, br_yesD h4, br_noD h5, decide_eq_false (by omega)]; rfl
        · rw [br_yesD h1, br_yesD h2, br_yesD h3, br_noD h4, decide_eq_false (by omega)]; rfl
      · rw [br_yesD h1, br_yesD h2, br_noD h3, decide_eq_false (by omega)]; rfl
    · rw [br_yesD h1, br_noD h2, decide_eq_false (by omega)]; rfl
  · rw [br_noD h1, decide_eq_false (by omega)]; rfl

/-- The loops of the reference's number. -/
def inv44_0 : Sref07_number_0 → Bool
  | .s0 y m n i => decide (0 ≤ y ∧ y ≤ 9999 ∧ 1 ≤ i ∧ i ≤ m ∧ m ≤ 12 ∧ -1000 ≤ n ∧ n + (mday y m - mday y i) ≤ 10000)
theorem i44_0 {y m n i : Int} (h : 0 ≤ y ∧ y ≤ 9999 ∧ 1 ≤ i ∧ i ≤ m ∧ m ≤ 12 ∧ -1000 ≤ n ∧ n + (mday y m - mday y i) ≤ 10000) : inv44_0 (.s0 y m n i) = true := decide_eq_true h
def out44_0' : Sref07_number_0 → Oref07_number_0
  | .s0 y m n i => .x0 y (n + (mday y m - mday y i))
theorem l44_0 : ∀ s o, lOf inv44_0 out44_0' s = some o → ∃ k, fuelRec (Rref07_number_0 (tabK tr2) some) k s = some o :=
  fuel_of inv44_0 out44_0' (fun | .s0 y m n i => (m - i).toNat) (by
    rintro ⟨y, m, n, i⟩ rec hi hrec
    have hi := of_decide_eq_true hi
    show Rref07_number_0 (tabK tr2) some rec (.s0 y m n i) = _
    simp only [Rref07_number_0]
    by_cases h : i < m
    · rw [br_yesD h, k2_41 hi.1]
      simp only [optK_s, asInt_v]
      have hs := mday_succ (y := y) (m := i) (by omega) (by omega)
      have hp := @daysI_pos y i
      have hmm := mday_mono (y := y) (a := i + 1) (b := m) (by omega) (by omega) (by omega)
      rw [w64_id (n := n + daysI y i) (by omega) (by omega), w64_id (n := i + 1) (by omega) (by omega)]
      rw [hrec _ (i44_0 (by omega)) (by show (m - (i + 1)).toNat < (m - i).toNat; omega)]
      show some (Oref07_number_0.x0 y _) = some (Oref07_number_0.x0 y _)
      congr 2; omega
    · rw [br_noD h]
      obtain rfl : i = m := by omega
      show some (Oref07_number_0.x0 y n) = some (Oref07_number_0.x0 y _)
      congr 2; omega)

def inv44_1 : Sref07_number_1 → Bool
  | .s0 y n i => decide (0 ≤ i ∧ i ≤ 10000 ∧ y ≤ 9999 ∧ -10000 ≤ n ∧ (i ≤ y → n + (yday y - yday i) ≤ 10000000) ∧ n ≤ 10000000)
theorem i44_1 {y n i : Int} (h : 0 ≤ i ∧ i ≤ 10000 ∧ y ≤ 9999 ∧ -10000 ≤ n ∧ (i ≤ y → n + (yday y - yday i) ≤ 10000000) ∧ n ≤ 10000000) : inv44_1 (.s0 y n i) = true := decide_eq_true h
def out44_1' : Sref07_number_1 → Oref07_number_1
  | .s0 y n i => .x0 y (if i < y then n + (yday y - yday i) else n)
theorem l44_1 : ∀ s o, lOf inv44_1 out44_1' s = some o → ∃ k, fuelRec (Rref07_number_1 (tabK tr2) some) k s = some o :=
  fuel_of inv44_1 out44_1' (fun | .s0 y n i => (y - i).toNat) (by
    rintro ⟨y, n, i⟩ rec hi hrec
    have hi := of_decide_eq_true hi
    show Rref07_number_1 (tabK tr2) some rec (.s0 y n i) = _
    simp only [Rref07_number_1]
    by_cases h : i < y
    · rw [br_yesD h, k2_40 hi.1]
      simp only [optK_s, asInt_v]
      have hs := yday_succ (y := i) (by omega)
      have hp := lengthI_pos i
      have hmm := yday_mono (a := i + 1) (b := y) (by omega) (by omega)
      rw [w64_id (n := n + lengthI i) (by omega) (by omega), w64_id (n := i + 1) (by omega) (by omega)]
      rw [hrec _ (i44_1 (by omega)) (by show (y - (i + 1)).toNat < (y - i).toNat; omega)]
      show some (Oref07_number_1.x0 y _) = some (Oref07_number_1.x0 y _)
      rw [if_pos h]
      congr 2; split
      · omega
      · obtain rfl : i + 1 = y := by omega
        omega
    · rw [br_noD h]
      show some (Oref07_number_1.x0 y n) = some (Oref07_number_1.x0 y _)
      rw [if_neg h])

def inv44_2 : Sref07_number_2 → Bool
  | .s0 n i => decide (0 ≤ i ∧ i ≤ 10000 ∧ n ≤ 10000000 ∧ -10000000 ≤ n ∧ (i < 1970 → -10000000 ≤ n + yday i))
theorem i44_2 {n i : Int} (h : 0 ≤ i ∧ i ≤ 10000 ∧ n ≤ 10000000 ∧ -10000000 ≤ n ∧ (i < 1970 → -10000000 ≤ n + yday i)) : inv44_2 (.s0 n i) = true := decide_eq_true h
def out44_2' : Sref07_number_2 → Oref07_number_2
  | .s0 n i => .x0 (if i < 1970 then n + yday i else n)
theorem l44_2 : ∀ s o, lOf inv44_2 out44_2' s = some o → ∃ k, fuelRec (Rref07_number_2 (tabK tr2) some) k s = some o :=
  fuel_of inv44_2 out44_2' (fun | .s0 n i => (1970 - i).toNat) (by
    rintro ⟨n, i⟩ rec hi hrec
    have hi := of_decide_eq_true hi
    show Rref07_number_2 (tabK tr2) some rec (.s0 n i) = _
    simp only [Rref07_number_2]
    by_cases h : i < 1970
    · rw [br_yesD h, k2_40 hi.1]
      simp only [optK_s, asInt_v]
      have hs := yday_succ (y := i) (by omega)
      have hp := lengthI_pos i
      have e70 : yday 1970 = 0 := by decide
      have hmm := yday_mono (a := i + 1) (b := 1970) (by omega) (by omega)
      rw [w64_id (n := n - lengthI i) (by omega) (by omega), w64_id (n := i + 1) (by omega) (by omega)]
      rw [hrec _ (i44_2 (by omega)) (by show (1970 - (i + 1)).toNat < (1970 - i).toNat; omega)]
      show some (Oref07_number_2.x0 _) = some (Oref07_number_2.x0 _)
      rw [if_pos h]
      congr 2; split
      · omega
      · obtain rfl : i = 1969 := by omega
        have : yday (1969 + 1) = 0 := by decide
        omega
    · rw [br_noD h]
      show some (Oref07_number_2.x0 n) = some (Oref07_number_2.x0 _)
      rw [if_neg h])

theorem t44 (y m d : Int) (hy : 0 ≤ y) (hy2 : y ≤ 9999) (hm : 1 ≤ m) (hm2 : m ≤ 12) (hd : 1 ≤ d) (hd2 : d ≤ 31) :
    Rref07_number (tabK tr2) (lOf inv44_0 out44_0') (lOf inv44_1 out44_1') (lOf inv44_2 out44_2') y m d = some (iv (yday y + mday y m + d - 1)) := by
  unfold Rref07_number
  have e1 := mday_one y
  have hr := mday_range (y := y) hm (by omega)
  have e70 : yday 1970 = 0 := by decide
  have hyr := yday_range hy (by omega)
  rw [w64_id (n := d - 1) (by omega) (by omega), lOf_pos (i44_0 (by omega))]
  simp only [optK_s, out44_0', Oref07_number_0.k]
  rw [lOf_pos (i44_1 (by omega))]
  simp only [optK_s, out44_1', Oref07_number_1.k]
  by_cases h : y < 1970
  · have hmm := yday_mono (a := y) (b := 1970) (by omega) (by omega)
    rw [if_neg (by omega), lOf_pos (i44_2 (by omega))]
    simp only [optK_s, out44_2', Oref07_number_2.k]
    rw [if_pos h]
    exact some_iv (by omega)
  · have hmm := yday_mono (a := 1970) (b := y) (by omega) (by omega)
    by_cases h70 : 1970 < y
    · rw [if_pos h70, lOf_pos (i44_2 (by omega))]
      simp only [optK_s, out44_2', Oref07_number_2.k]
      rw [if_neg h]
      exact some_iv (by omega)
    · obtain rfl : y = 1970 := by omega
      rw [if_neg h70, lOf_pos (i44_2 (by omega))]
      simp only [optK_s, out44_2', Oref07_number_2.k]
      exact some_iv (by simp; omega)

/-- The loops of the reference's date. -/
def inv17_0 : Sref07_Civil_0 → Bool
  | .s0 r y m => decide (1970 ≤ y ∧ y ≤ 9999 ∧ 0 ≤ r ∧ r + yday y ≤ 2932896)
theorem i17_0 {r y m : Int} (h : 1970 ≤ y ∧ y ≤ 9999 ∧ 0 ≤ r ∧ r + yday y ≤ 2932896) : inv17_0 (.s0 r y m) = true := decide_eq_true h
def out17_0' : Sref07_Civil_0 → Oref07_Civil_0
  | .s0 r y m => .x0 (civY (9999 - y).toNat r y).1 (civY (9999 - y).toNat r y).2 m
theorem l17_0 : ∀ s o, lOf inv17_0 out17_0' s = some o → ∃ k, fuelRec (Rref07_Civil_0 (tabK tr2) some) k s = some o :=
  fuel_of inv17_0 out17_0' (fun | .s0 r y m => (9999 - y).toNat) (by
    rintro ⟨r, y, m⟩ rec hi hrec
    have hi := of_decide_eq_true hi
    show Rref07_Civil_0 (tabK tr2) some rec (.s0 r y m) = _
    simp only [Rref07_Civil_0]
    have hp := lengthI_pos y
    have hs := yday_succ (y := y) (by omega)
    have hyr := yday_range (y := y) (by omega) (by omega)
    rw [k2_40 (by omega)]
    simp only [optK_s, asInt_v]
    by_cases h : r ≥ lengthI y
    · have hy : y < 9999 := by
        rcases Int.lt_or_eq_of_le hi.2.1 with h9 | h9
        · exact h9
        · subst h9
          have : yday (9999 + 1) = 2932897 := by decide
          omega
      obtain ⟨n, hn⟩ : ∃ n, (9999 - y).toNat = n + 1 := ⟨(9999 - y).toNat - 1, by omega⟩
      have hn' : (9999 - (y + 1)).toNat = n := by omega
      rw [br_yesD h, w64_id (n := y + 1) (by omega) (by omega), w64_id (n := r - lengthI y) (by omega) (by omega), hrec _ (i17_0 (by omega)) (by show (9999 - (y + 1)).toNat < (9999 - y).toNat; omega)]
      simp only [out17_0', hn, hn', civY, if_pos h]
    · rw [br_noD h]
      cases hn : (9999 - y).toNat with
      | zero => simp only [out17_0', hn, civY]
      | succ n => simp only [out17_0', hn, civY, if_neg h])

def inv17_1 : Sref07_Civil_1 → Bool
  | .s0 r y m => decide (0 ≤ y ∧ y ≤ 9999 ∧ 1 ≤ m ∧ m ≤ 12 ∧ 0 ≤ r ∧ r + mday y m < lengthI y)
theorem i17_1 {r y m : Int} (h : 0 ≤ y ∧ y ≤ 9999 ∧ 1 ≤ m ∧ m ≤ 12 ∧ 0 ≤ r ∧ r + mday y m < lengthI y) : inv17_1 (.s0 r y m) = true := decide_eq_true h
def out17_1' : Sref07_Civil_1 → Oref07_Civil_1
  | .s0 r y m => .x0 (civM y (12 - m).toNat r m).1 y (civM y (12 - m).toNat r m).2
theorem l17_1 : ∀ s o, lOf inv17_1 out17_1' s = some o → ∃ k, fuelRec (Rref07_Civil_1 (tabK tr2) some) k s = some o :=
  fuel_of inv17_1 out17_1' (fun | .s0 r y m => (12 - m).toNat) (by
    rintro ⟨r, y, m⟩ rec hi hrec
    have hi := of_decide_eq_true hi
    show Rref07_Civil_1 (tabK tr2) some rec (.s0 r y m) = _
    simp only [Rref07_Civil_1]
    have hp := @daysI_pos y m
    have hs := mday_succ (y := y) (m := m) (by omega) (by omega)
    have hl := lengthI_pos y
    have hmr := mday_range (y := y) (m := m) (by omega) (by omega)
    rw [k2_41 (by omega)]
    simp only [optK_s, asInt_v]
    by_cases h : r ≥ daysI y m
    · have hm : m < 12 := by
        rcases Int.lt_or_eq_of_le hi.2.2.2.1 with h9 | h9
        · exact h9
        · subst h9
          have : mday y (12 + 1) = lengthI y := mday_end y
          omega
      obtain ⟨n, hn⟩ : ∃ n, (12 - m).toNat = n + 1 := ⟨(12 - m).toNat - 1, by omega⟩
      have hn' : (12 - (m + 1)).toNat = n := by omega
      rw [br_yesD h, w64_id (n := m + 1) (by omega) (by omega), w64_id (n := r - daysI y m) (by omega) (by omega), hrec _ (i17_1 (by omega)) (by show (12 - (m + 1)).toNat < (12 - m).toNat; omega)]
      simp only [out17_1', hn, hn', civM, if_pos h]
    · rw [br_noD h]
      cases hn : (12 - m).toNat with
      | zero => simp only [out17_1', hn, civM]
      | succ n => simp only [out17_1', hn, civM, if_neg h])

theorem t17 (day : Int) : Rref07_Civil (tabK tr2) (lOf inv17_0 out17_0') (lOf inv17_1 out17_1') day = some (triple (if day < 0 ∨ day > 2932896 then (0, 0, 0) else civR day)) := by
  unfold Rref07_Civil
  by_cases h1 : day < 0
  · rw [br_yesD h1, if_pos (.inl h1)]; rfl
  · rw [br_noD h1]
    simp only [optK_s, asBool_v]
    by_cases h2 : day > 2932896
    · rw [br_yesD h2, if_pos (.inr h2)]; rfl
    · rw [br_noD h2, if_neg (by omega)]
      have e0 : yday 1970 = 0 := by decide
      have hy := civY_spec 8029 day 1970 (by decide) (by omega) (by omega) (by omega) (by omega)
      have hm := civM_spec (civY 8029 day 1970).2 11 (civY 8029 day 1970).1 1 (by decide) (by omega) (by omega) hy.1 (by rw [mday_one]; omega)
      have hp := @daysI_pos (civY 8029 day 1970).2 (civM (civY 8029 day 1970).2 11 (civY 8029 day 1970).1 1).2
      rw [lOf_pos (i17_0 (by omega))]
      simp only [optK_s, out17_0', Oref07_Civil_0.k]
      rw [show (9999 - (1970 : Int)).toNat = 8029 from rfl]
      rw [lOf_pos (i17_1 (by rw [mday_one]; omega))]
      simp only [optK_s, out17_1', Oref07_Civil_1.k]
      rw [show (12 - (1 : Int)).toNat = 11 from rfl, w64_id (by omega) (by omega)]
      rfl

def e44 : List AV → Option AV
  | [.v (.int .i64 y), .v (.int .i64 m), .v (.int .i64 d)] => br (decide (0 ≤ y ∧ y ≤ 9999 ∧ 1 ≤ m ∧ m ≤ 12 ∧ 1 ≤ d ∧ d ≤ 31)) (some (iv (yday y + mday y m + d - 1))) none
  | _ => none
theorem e43_ok (xs : List AV) (v : AV) (h : e42 xs = some v) : PureCall X f_ref07_there xs v := by
  unfold e42 at h
  split at h
  · cases h; exact pcref07_there (tab_ok _ tr2_ok) (t43 _ _ _)
  · cases h
theorem e44_ok (xs : List AV) (v : AV) (h : e44 xs = some v) : PureCall X f_ref07_number xs v := by
  unfold e44 at h
  split at h
  · obtain ⟨h1, h2⟩ := br_yes h
    cases h2
    obtain ⟨a, b, c, d, e, f⟩ := of_decide_eq_true h1
    exact pcref07_number (tab_ok _ tr2_ok) l44_0 l44_1 l44_2 (t44 _ _ _ a b c d e f)
  · cases h
theorem e17_ok (xs : List AV) (v : AV) (h : e16 xs = some v) : PureCall X f_ref07_Civil xs v := by
  unfold e16 at h
  split at h
  · cases h
    rename_i day
    refine pcref07_Civil (tab_ok _ tr2_ok) l17_0 l17_1 ((t17 _).trans ?_)
    unfold civI
    by_cases hc : day < 0 ∨ day > 2932896
    · rw [if_pos hc, if_pos hc]
    · rw [if_neg hc, if_neg hc, civ_same (by omega) (by omega)]
  · cases h
def tr3 : Tab := [(f_ref07_there, e42), (f_ref07_number, e44), (f_ref07_Civil, e16)]
theorem tr3_ok : TabOk X tr3 := tab_cons e43_ok (tab_cons e44_ok (tab_cons e17_ok tab_nil))
theorem k3_43 {y m d : Int} : tabK tr3 f_ref07_there [iv y, iv m, iv d] = some (bv (thereI y m d)) := rfl
theorem k3_44 {y m d : Int} (h : 0 ≤ y ∧ y ≤ 9999 ∧ 1 ≤ m ∧ m ≤ 12 ∧ 1 ≤ d ∧ d ≤ 31) : tabK tr3 f_ref07_number [iv y, iv m, iv d] = some (iv (yday y + mday y m + d - 1)) := br_pos (decide_eq_true h)
theorem k3_17 {day : Int} : tabK tr3 f_ref07_Civil [iv day] = some (triple (civI day)) := rfl

theorem t19 (y m d : Int) : Rref07_Number (tabK tr3) y m d = some (iv (numI y m d)) := by
  unfold Rref07_Number numI
  rw [k3_43]
  simp only [optK_s, asBool_v]
  by_cases h : y < 1970
  · rw [br_yesD h]; simp [h, optK_s, asBool_v, br_t]
  · rw [br_noD h]
    simp only [optK_s, asBool_v, h, decide_false, Bool.false_or]
    cases ht : thereI y m d with
    | false => rfl
    | true =>
      have := there_day ht
      rw [k3_44 (by omega)]; rfl
theorem e19_ok (xs : List AV) (v : AV) (h : e18 xs = some v) : PureCall X f_ref07_Number xs v := by
  unfold e18 at h
  split at h
  · cases h; exact pcref07_Number (tab_ok _ tr3_ok) (t19 _ _ _)
  · cases h


theorem maxStr_ok {n : Nat} (h : n ≤ 1000000000) : n.ble maxStr = true := Nat.ble_eq_true_of_le (by unfold maxStr; omega)
def numR (l : List UInt8) (lo hi : Int) : Int := if (numB l lo hi).2 then (numB l lo hi).1 else -1
abbrev encNu (l : List UInt8) (a : Int × Nat) : Sref07_num_0 := .s0 (bs l) a.1 (a.2 : Int)
abbrev PNu (l : List UInt8) (a : Int × Nat) : Prop := a.2 ≤ l.length ∧ l.length ≤ 4 ∧ 0 ≤ a.1 ∧ a.1 < 10 ^ a.2
abbrev QNu (l : List UInt8) (a : Int × Nat) (o : Oref07_num_0) : Prop := if (l.drop a.2).all isDig then o = .x1 (numGo (l.drop a.2) a.1) else ∃ n, o = .x0 (-1) n
theorem l_Nu (K : PureK) (l : List UInt8) {a : Int × Nat} (h : PNu l a) : ∃ o, QNu l a o ∧ loopQ (Rref07_num_0 K some) (encNu l) (PNu l) (QNu l) (encNu l a) = some o := by
  refine loopQ_eq (fun a => l.length - a.2) ?_ (fun x y h o hq => by
    obtain ⟨x1, x2⟩ := x
    obtain ⟨y1, y2⟩ := y
    simp [encNu] at h
    obtain ⟨rfl, h⟩ := h
    rw [show x2 = y2 by omega]; exact hq) h
  rintro ⟨n, i⟩ rec ⟨h1, h2, h3, h4⟩ hrec
  simp only [] at h1 h2 h3 h4
  simp only [encNu, Rref07_num_0, bs_size]
  by_cases hi : i < l.length
  · have hb : bt (bs l) ((i : Int)).toNat = (l[i].toNat : Int) := by rw [Int.toNat_natCast]; exact bt_get hi
    have c1 : decide ((i : Int) < ((l.length : Nat) : Int)) = true := decide_eq_true (by omega)
    have c2 : decide (0 ≤ (i : Int)) = true := decide_eq_true (by omega)
    simp only [hb, c1, c2, br_t]
    have hd := List.drop_eq_getElem_cons hi
    have hlt := l[i].toNat_lt
    have hask : br (decide ((l[i].toNat : Int) < 48)) (some (bv true)) (some (bv (decide ((l[i].toNat : Int) > 57)))) = some (bv (!isDig l[i])) := by
      unfold isDig
      by_cases d1 : l[i].toNat < 48
      · rw [br_yesD (by omega), decide_eq_false (show ¬ 48 ≤ l[i].toNat by omega)]; rfl
      · rw [br_noD (by omega), decide_eq_true (show 48 ≤ l[i].toNat by omega)]
        refine congrArg (fun b => some (bv b)) ?_
        by_cases d2 : l[i].toNat ≤ 57
        · rw [decide_eq_true d2, decide_eq_false (by omega)]; rfl
        · rw [decide_eq_false d2, decide_eq_true (by omega)]; rfl
    rw [hask]
    simp only [optK_s, asBool_v]
    cases hg : isDig l[i] with
    | false => exact ⟨_, by rw [QNu, hd]; simp only [List.all_cons, hg, Bool.false_and]; exact ⟨n, rfl⟩, rfl⟩
    | true =>
      have hg' := hg
      simp only [isDig, Bool.and_eq_true, decide_eq_true_eq] at hg'
      have hp : (10 : Int) ^ i ≤ 1000 := by
        have : i = 0 ∨ i = 1 ∨ i = 2 ∨ i = 3 := by omega
        rcases this with rfl | rfl | rfl | rfl <;> decide
      rw [Bool.not_true, br_f, w8_id (n := (l[i].toNat : Int) - 48) (by omega) (by omega), w64_id (n := (l[i].toNat : Int) - 48) (by omega) (by omega), w64_id (n := n * 10) (by omega) (by omega), w64_id (n := n * 10 + ((l[i].toNat : Int) - 48)) (by omega) (by omega), w64_id (n := (i : Int) + 1) (by omega) (by omega)]
      obtain ⟨o, hq, ho⟩ := hrec (n * 10 + ((l[i].toNat : Int) - 48), i + 1) ⟨hi, h2, by simp only []; omega, by simp only []; rw [Int.pow_succ]; omega⟩ (by simp only []; omega)
      refine ⟨o, ?_, by rw [show ((i : Int) + 1) = ((i + 1 : Nat) : Int) by omega]; exact ho⟩
      rw [QNu, hd]
      simp only [List.all_cons, hg, Bool.true_and, numGo]
      exact hq
  · rw [br_noD (by omega)]
    refine ⟨_, ?_, rfl⟩
    rw [QNu]
    simp only []
    rw [List.drop_eq_nil_of_le (by omega)]
    rfl
abbrev encN3 (x : List UInt8 × Int × Int) : List AV := [sv (bs x.1), iv x.2.1, iv x.2.2]
theorem t_num (x : List UInt8 × Int × Int) (h : x.2.2 ≤ 4) : PureCall X f_ref07_num (encN3 x) (iv (numR x.1 x.2.1 x.2.2)) := by
  obtain ⟨l, lo, hi⟩ := x
  simp only [] at h
  refine pcref07_num ok_nil (lref07_num_0 := loopQ (Rref07_num_0 (tabK []) some) (encNu l) (PNu l) (QNu l)) loopQ_ok ?_
  unfold Rref07_num
  simp only []
  rw [bs_size]
  by_cases h1 : (l.length : Int) < lo
  · have e : numB l lo hi = (0, false) := by unfold numB; rw [if_pos (.inl h1)]
    rw [br_yesD h1, numR, e]; rfl
  · rw [br_noD h1]
    simp only [optK_s, asBool_v]
    by_cases h2 : (l.length : Int) > hi
    · have e : numB l lo hi = (0, false) := by unfold numB; rw [if_pos (.inr (.inl h2))]
      rw [br_yesD h2, numR, e]; rfl
    · rw [br_noD h2]
      obtain ⟨o, hq, ho⟩ := l_Nu (tabK []) l (a := (0, 0)) ⟨Nat.zero_le _, by omega, by decide, by decide⟩
      have ho' : loopQ (Rref07_num_0 (tabK []) some) (encNu l) (PNu l) (QNu l) (.s0 (bs l) 0 0) = some o := ho
      rw [ho']
      simp only [QNu, List.drop_zero] at hq
      cases h3 : l.all isDig with
      | true =>
        have e : numB l lo hi = (numGo l 0, true) := by unfold numB; rw [if_neg (by simp [h3]; omega)]
        rw [h3, if_pos rfl] at hq
        subst hq
        rw [numR, e]
        rfl
      | false =>
        have e : numB l lo hi = (0, false) := by unfold numB; rw [if_pos (.inr (.inr h3))]
        rw [h3, if_neg (by decide)] at hq
        obtain ⟨n, rfl⟩ := hq
        rw [numR, e]
        rfl
noncomputable abbrev E_num := callF X f_ref07_num encN3 (fun x => x.2.2 ≤ 4) fun x => iv (numR x.1 x.2.1 x.2.2)
theorem k_num {T : Tab} (hT : tabK T f_ref07_num = E_num) (l : List UInt8) (lo hi : Int) (h : hi ≤ 4) : tabK T f_ref07_num [sv (bs l), iv lo, iv hi] = some (iv (numR l lo hi)) := by
  rw [hT]
  exact callF_eq (enc := encN3) (P := fun x => x.2.2 ≤ 4) (f := fun x => iv (numR x.1 x.2.1 x.2.2)) t_num (fun x y h => by
    obtain ⟨x1, x2, x3⟩ := x
    obtain ⟨y1, y2, y3⟩ := y
    simp only [encN3, List.cons.injEq, AV.v.injEq, Value.string.injEq, Value.int.injEq, bs_inj_iff, and_true, true_and] at h
    rw [h.1, h.2.1, h.2.2]) (a := (l, lo, hi)) h

def lowB (c : UInt8) : UInt8 := if 65 ≤ c.toNat ∧ c.toNat ≤ 90 then UInt8.ofNat (c.toNat + 32) else c
abbrev encSm (l : List UInt8) (a : List UInt8 × Nat) : Sref07_small_0 := .s0 (bs l) (bs a.1) (a.2 : Int)
abbrev PSm (l : List UInt8) (a : List UInt8 × Nat) : Prop := a.2 ≤ l.length ∧ l.length ≤ 1000000 ∧ a.1.length ≤ a.2
def outSm (l : List UInt8) (a : List UInt8 × Nat) : Oref07_small_0 := .x0 (bs (a.1 ++ (l.drop a.2).map lowB))
theorem l_Sm (K : PureK) (l : List UInt8) {a : List UInt8 × Nat} (h : PSm l a) : loopF (Rref07_small_0 K some) (encSm l) (PSm l) (outSm l) (encSm l a) = some (outSm l a) := by
  refine loopF_eq (fun a => l.length - a.2) ?_ (fun x y h => by
    obtain ⟨x1, x2⟩ := x
    obtain ⟨y1, y2⟩ := y
    simp [encSm, bs_inj_iff] at h
    obtain ⟨rfl, h⟩ := h
    rw [show x2 = y2 by omega]) h
  rintro ⟨w, i⟩ rec ⟨h1, h2, h3⟩ hrec
  simp only [] at h1 h2 h3
  simp only [encSm, Rref07_small_0, bs_size]
  by_cases hi : i < l.length
  · have hb : bt (bs l) ((i : Int)).toNat = (l[i].toNat : Int) := by rw [Int.toNat_natCast]; exact bt_get hi
    have c1 : decide ((i : Int) < ((l.length : Nat) : Int)) = true := decide_eq_true (by omega)
    have c2 : decide (0 ≤ (i : Int)) = true := decide_eq_true (by omega)
    simp only [hb, c1, c2, br_t]
    have hlt := l[i].toNat_lt
    have hask : br (decide ((l[i].toNat : Int) ≥ 65)) (some (bv (decide ((l[i].toNat : Int) ≤ 90)))) (some (bv false)) = some (bv (decide (65 ≤ l[i].toNat ∧ l[i].toNat ≤ 90))) := by
      by_cases d1 : 65 ≤ l[i].toNat
      · rw [br_yesD (by omega)]
        refine congrArg (fun b => some (bv b)) ?_
        simp only [decide_eq_decide]; omega
      · rw [br_noD (by omega), decide_eq_false (by omega)]
    rw [hask]
    simp only [optK_s, asBool_v]
    have hgo : rec (.s0 (bs l) (bs (w ++ [lowB l[i]])) (w64 ((i : Int) + 1))) = some (outSm l (w, i)) := by
      rw [w64_id (n := (i : Int) + 1) (by omega) (by omega), show ((i : Int) + 1) = ((i + 1 : Nat) : Int) by omega]
      have := hrec (w ++ [lowB l[i]], i + 1) ⟨hi, h2, by simp; omega⟩ (by simp only []; omega)
      simp only [encSm] at this
      rw [this]
      simp only [outSm]
      rw [List.drop_eq_getElem_cons hi, List.map_cons, List.append_assoc]
      rfl
    have hone : ∀ c : UInt8, ({ data := [c].reverse.toArray } : ByteArray) = bs [c] := fun c => rfl
    by_cases hU : 65 ≤ l[i].toNat ∧ l[i].toNat ≤ 90
    · rw [br_yesD hU, hone, br_pos (maxStr_ok (by simp only [bs_size, List.length_singleton]; omega)), cat_bs]
      have e : UInt8.ofNat (w8 ((l[i].toNat : Int) + 32)).toNat = lowB l[i] := by
        unfold lowB
        rw [if_pos hU, w8_id (by omega) (by omega)]
        congr 1
      rw [e]
      exact hgo
    · rw [br_noD hU, hone, br_pos (maxStr_ok (by simp only [bs_size, List.length_singleton]; omega)), cat_bs]
      have e : UInt8.ofNat ((l[i].toNat : Int)).toNat = lowB l[i] := by
        unfold lowB
        rw [if_neg hU, Int.toNat_natCast, UInt8.ofNat_toNat]
      rw [e]
      exact hgo
  · rw [br_noD (by omega)]
    simp only [outSm]
    rw [List.drop_eq_nil_of_le (by omega)]
    simp
theorem t_small (l : List UInt8) (h : l.length ≤ 1000000) : PureCall X f_ref07_small (encB1 l) (sv (bs (l.map lowB))) := by
  refine pcref07_small ok_nil (lref07_small_0 := loopF (Rref07_small_0 (tabK []) some) (encSm l) (PSm l) (outSm l)) loopF_ok ?_
  unfold Rref07_small
  have := l_Sm (tabK []) l (a := ([], 0)) ⟨Nat.zero_le _, h, Nat.zero_le _⟩
  have h' : loopF (Rref07_small_0 (tabK []) some) (encSm l) (PSm l) (outSm l) (.s0 (bs l) { data := #[] } 0) = some (outSm l ([], 0)) := this
  rw [h']
  simp only [optK_s, outSm, Oref07_small_0.k, List.nil_append, List.drop_zero]
noncomputable abbrev E_small := callF X f_ref07_small encB1 (fun l => l.length ≤ 1000000) fun l => sv (bs (l.map lowB))
theorem k_small {T : Tab} (hT : tabK T f_ref07_small = E_small) (l : List UInt8) (h : l.length ≤ 1000000) : tabK T f_ref07_small [sv (bs l)] = some (sv (bs (l.map lowB))) := by
  rw [hT]
  exact callF_eq (enc := encB1) (P := fun l => l.length ≤ 1000000) (f := fun l => sv (bs (l.map lowB))) t_small (fun x y h => by rw [encB1_inj h]) h

def monL : List UInt8 := [74, 97, 110, 70, 101, 98, 77, 97, 114, 65, 112, 114, 77, 97, 121, 74, 117, 110, 74, 117, 108, 65, 117, 103, 83, 101, 112, 79, 99, 116, 78, 111, 118, 68, 101, 99]
def e_mons : List AV → Option AV
  | [] => some (sv (bs monL))
  | _ => none
theorem e_mons_ok (xs : List AV) (v : AV) (h : e_mons xs = some v) : PureCall X f_ref07_months xs v := by
  unfold e_mons at h
  split at h
  · cases h; exact pcref07_months ok_nil rfl
  · cases h
theorem mon_at {i : Int} (h0 : 0 ≤ i) (h : i < 12) : (monL.take (3 * (i + 1)).toNat).drop (3 * (i + 1) - 3).toNat = nameAt i := by
  have : i = 0 ∨ i = 1 ∨ i = 2 ∨ i = 3 ∨ i = 4 ∨ i = 5 ∨ i = 6 ∨ i = 7 ∨ i = 8 ∨ i = 9 ∨ i = 10 ∨ i = 11 := by omega
  rcases this with rfl | rfl | rfl | rfl | rfl | rfl | rfl | rfl | rfl | rfl | rfl | rfl <;> decide
/-- The first month, from one on, of that name; 0: none. -/
def monFrom (s : List UInt8) : Nat → Int → Int
  | 0, _ => 0
  | k + 1, m => if s.map lowB == (nameAt (m - 1)).map lowB then m else monFrom s k (m + 1)
noncomputable def tbMo : Tab := [(f_ref07_small, E_small), (f_ref07_months, e_mons)]
theorem tbMo_ok : TabOk X tbMo := tab_cons callQ_ok (tab_cons e_mons_ok tab_nil)
abbrev encMo (l : List UInt8) (m : Nat) : Sref07_month_0 := .s0 (bs l) ((m : Int) + 1)
def outMo (l : List UInt8) (m : Nat) : Oref07_month_0 := if monFrom l (12 - m) ((m : Int) + 1) = 0 then .x1 else .x0 (monFrom l (12 - m) ((m : Int) + 1))
theorem l_Mo (l : List UInt8) (hl : l.length ≤ 1000000) {m : Nat} (h : m ≤ 12) : loopF (Rref07_month_0 (tabK tbMo) some) (encMo l) (fun m => m ≤ 12) (outMo l) (encMo l m) = some (outMo l m) := by
  refine loopF_eq (fun m => 12 - m) ?_ (fun x y h => by
    have : (x : Int) = y := by simpa [encMo] using h
    rw [show x = y by omega]) h
  intro m rec hm hrec
  simp only [encMo, Rref07_month_0]
  by_cases hi : m < 12
  · rw [br_yesD (by omega), k_small (T := tbMo) rfl l hl, show tabK tbMo f_ref07_months [] = some (sv (bs monL)) from rfl]
    simp only [optK_s, asStr_v]
    rw [w64_id (n := 3 * ((m : Int) + 1)) (by omega) (by omega), w64_id (n := 3 * ((m : Int) + 1) - 3) (by omega) (by omega), br_yesD (by omega), br_yesD (by omega), br_yesD (by rw [bs_size]; simp [monL]; omega), cut_both, mon_at (i := (m : Int)) (by omega) (by omega)]
    have hn := nameAt_ok (i := (m : Int)) (by omega) (by omega)
    rw [k_small (T := tbMo) rfl _ (by omega)]
    simp only [optK_s, asStr_v]
    rw [strEq_bs]
    have hm1 : 12 - m = (12 - (m + 1)) + 1 := by omega
    have hm2 : ((m : Int) + 1 - 1) = (m : Int) := by omega
    simp only [outMo, hm1, monFrom, hm2]
    cases he : (l.map lowB == (nameAt (m : Int)).map lowB) with
    | true => simp only [br_t, if_true]; rw [if_neg (by omega)]
    | false =>
      simp only [br_f, Bool.false_eq_true, if_false]
      rw [w64_id (n := (m : Int) + 1 + 1) (by omega) (by omega)]
      have := hrec (m + 1) (by omega) (by omega)
      simp only [encMo, outMo] at this
      rw [show ((m + 1 : Nat) : Int) = (m : Int) + 1 by omega] at this
      exact this
  · rw [br_noD (by omega)]
    have hm1 : 12 - m = 0 := by omega
    simp only [outMo, hm1]
    rfl
def monR (l : List UInt8) : Int := monFrom l 12 1
theorem t_month (l : List UInt8) (h : l.length ≤ 1000000) : PureCall X f_ref07_month (encB1 l) (iv (monR l)) := by
  refine pcref07_month (tab_ok _ tbMo_ok) (lref07_month_0 := loopF (Rref07_month_0 (tabK tbMo) some) (encMo l) (fun m => m ≤ 12) (outMo l)) loopF_ok ?_
  unfold Rref07_month
  have := l_Mo l h (m := 0) (by omega)
  have h' : loopF (Rref07_month_0 (tabK tbMo) some) (encMo l) (fun m => m ≤ 12) (outMo l) (.s0 (bs l) 1) = some (outMo l 0) := this
  rw [h']
  simp only [optK_s, outMo]
  unfold monR
  show (if monFrom l 12 1 = 0 then Oref07_month_0.x1 else .x0 (monFrom l 12 1)).k _ _ = _
  by_cases h0 : monFrom l 12 1 = 0
  · rw [if_pos h0, h0]; rfl
  · rw [if_neg h0]; rfl
noncomputable abbrev E_month := callF X f_ref07_month encB1 (fun l => l.length ≤ 1000000) fun l => iv (monR l)
theorem k_month {T : Tab} (hT : tabK T f_ref07_month = E_month) (l : List UInt8) (h : l.length ≤ 1000000) : tabK T f_ref07_month [sv (bs l)] = some (iv (monR l)) := by
  rw [hT]
  exact callF_eq (enc := encB1) (P := fun l => l.length ≤ 1000000) (f := fun l => iv (monR l)) t_month (fun x y h => by rw [encB1_inj h]) h

theorem fold_low : ∀ x ∈ letL, ∀ n : Fin 256, foldB x (UInt8.ofNat n.1) = (lowB (UInt8.ofNat n.1) == lowB x) := by decide +kernel
theorem fold_low' {x : UInt8} (hx : x ∈ letL) (y : UInt8) : foldB x y = (lowB y == lowB x) := by
  have := fold_low x hx ⟨y.toNat, y.toNat_lt⟩
  rw [UInt8.ofNat_toNat] at this
  exact this
theorem eqFold_low : ∀ (a b : List UInt8), (∀ c ∈ a, c ∈ letL) → eqFold a b = (b.map lowB == a.map lowB)
  | [], [], _ => rfl
  | [], y :: b, _ => by simp [eqFold]
  | x :: a, [], _ => by simp [eqFold]
  | x :: a, y :: b, h => by
    have ih := eqFold_low a b fun c hc => h c (List.mem_cons_of_mem _ hc)
    unfold eqFold at ih ⊢
    simp only [List.length_cons, List.zip_cons_cons, List.all_cons, List.map_cons]
    rw [fold_low' (h x List.mem_cons_self) y]
    have e1 : (lowB y :: b.map lowB == lowB x :: a.map lowB) = ((lowB y == lowB x) && (b.map lowB == a.map lowB)) := rfl
    rw [e1, ← ih]
    have e2 : decide (a.length + 1 = b.length + 1) = decide (a.length = b.length) := by simp only [decide_eq_decide]; omega
    rw [e2]
    cases decide (a.length = b.length) <;> cases (lowB y == lowB x) <;> rfl
theorem names_apart : ∀ i : Fin 12, ∀ j : Fin 12, ((nameAt (i.1 : Int)).map lowB == (nameAt (j.1 : Int)).map lowB) = decide (i = j) := by decide +kernel

/-- What is left is split, behind a part that has begun. -/
def splitW (c : UInt8) (w l : List UInt8) : List (List UInt8) := match splitL c l with
  | [] => [w]
  | p :: ps => (w ++ p) :: ps
theorem splitW_nil (c : UInt8) (l : List UInt8) : splitW c [] l = splitL c l := by
  unfold splitW
  cases h : splitL c l with
  | nil => exact absurd h (splitL_ne c l)
  | cons p ps => rfl
theorem splitW_cons (c : UInt8) (w : List UInt8) (x : UInt8) (l : List UInt8) : splitW c w (x :: l) = if (x == c) = true then w :: splitW c [] l else splitW c (w ++ [x]) l := by
  rw [splitW_nil]
  unfold splitW
  simp only [splitL]
  cases (x == c) with
  | true => simp
  | false =>
    cases h : splitL c l with
    | nil => exact absurd h (splitL_ne c l)
    | cons p ps => simp
theorem svs_inj {a b : List (List UInt8)} (h : svs a = svs b) : a = b := svL_inj h

abbrev encSp (l : List UInt8) (c : UInt8) (a : List (List UInt8) × List UInt8 × Nat) : Sref07_split_0 := .s0 (bs l) (c.toNat : Int) (a.2.2 : Int) (svs (a.1 ++ [a.2.1]))
abbrev PSp (l : List UInt8) (a : List (List UInt8) × List UInt8 × Nat) : Prop := a.2.2 ≤ l.length ∧ l.length ≤ 1000000 ∧ a.1.length ≤ a.2.2 ∧ a.2.1.length ≤ a.2.2
def outSp (l : List UInt8) (c : UInt8) (a : List (List UInt8) × List UInt8 × Nat) : Oref07_split_0 := .x0 (svs (a.1 ++ splitW c a.2.1 (l.drop a.2.2)))
theorem encSp_inj {l : List UInt8} {c : UInt8} {x y : List (List UInt8) × List UInt8 × Nat} (h : encSp l c x = encSp l c y) : x = y := by
  obtain ⟨x1, x2, x3⟩ := x
  obtain ⟨y1, y2, y3⟩ := y
  simp only [encSp, Sref07_split_0.s0.injEq, true_and] at h
  obtain ⟨h1, h2⟩ := h
  have h2 := svs_inj h2
  obtain ⟨h3, h4⟩ := List.append_inj' h2 rfl
  rw [h3, List.cons.inj h4 |>.1, show x3 = y3 by omega]
set_option maxHeartbeats 1000000 in
theorem l_Sp (K : PureK) (l : List UInt8) (c : UInt8) {a : List (List UInt8) × List UInt8 × Nat} (h : PSp l a) : loopF (Rref07_split_0 K some) (encSp l c) (PSp l) (outSp l c) (encSp l c a) = some (outSp l c a) := by
  refine loopF_eq (fun a => l.length - a.2.2) ?_ (fun x y h => by rw [encSp_inj h]) h
  rintro ⟨ps, w, i⟩ rec ⟨h1, h2, h3, h4⟩ hrec
  simp only [] at h1 h2 h3 h4
  simp only [encSp, Rref07_split_0, bs_size]
  by_cases hi : i < l.length
  · have hb : bt (bs l) ((i : Int)).toNat = (l[i].toNat : Int) := by rw [Int.toNat_natCast]; exact bt_get hi
    have c1 : decide ((i : Int) < ((l.length : Nat) : Int)) = true := decide_eq_true (by omega)
    have c2 : decide (0 ≤ (i : Int)) = true := decide_eq_true (by omega)
    have hlen : (svs (ps ++ [w])).length = ps.length + 1 := by simp [svs]
    have hd := List.drop_eq_getElem_cons hi
    have heq : (((l[i].toNat : Int)) == (c.toNat : Int)) = (l[i] == c) := by
      rw [Bool.eq_iff_iff, beq_iff_eq, beq_iff_eq]
      constructor
      · intro h; exact UInt8.toNat_inj.1 (by omega)
      · rintro h; rw [h]
    simp only [hb, c1, c2, br_t, heq, hlen]
    cases he : (l[i] == c) with
    | true =>
      rw [br_t, br_pos (lenOks_of (by omega) (by omega)), w64_id (n := (i : Int) + 1) (by omega) (by omega)]
      have := hrec (ps ++ [w], [], i + 1) ⟨hi, h2, by simp; omega, by simp⟩ (by simp only []; omega)
      simp only [encSp, outSp] at this
      simp only [outSp]
      rw [hd, splitW_cons, he, if_pos rfl]
      rw [show ((i : Int) + 1) = ((i + 1 : Nat) : Int) by omega]
      have e1 : svs (ps ++ [w]) ++ [sv { data := #[] }] = svs (ps ++ [w] ++ [[]]) := by simp [svs]; rfl
      rw [e1, this]
      simp
    | false =>
      have e0 : (((ps.length + 1 : Nat) : Int) - 1) = (ps.length : Int) := by omega
      rw [br_f, e0, w64_id (n := (ps.length : Int)) (by omega) (by omega), Nat.zero_add, Int.toNat_natCast, w64_id (n := (i : Int) + 1) (by omega) (by omega)]
      have c3 : decide (0 ≤ (ps.length : Int)) = true := decide_eq_true (by omega)
      have c4 : decide ((ps.length : Int) < ((ps.length + 1 : Nat) : Int)) = true := decide_eq_true (by omega)
      have hg : (svs (ps ++ [w]))[ps.length]? = some (sv (bs w)) := by simp [svs]
      simp only [c3, c4, br_t, hg, optK_s, asStr_v]
      rw [br_yesD (by omega), br_yesD (by omega), cut_both, show ((i : Int) + 1).toNat = i + 1 by omega, Int.toNat_natCast]
      have hc : (l.take (i + 1)).drop i = [l[i]] := by
        rw [List.take_succ_eq_append_getElem hi, List.drop_append_of_le_length (by simp; omega), List.drop_eq_nil_of_le (by simp; omega)]; rfl
      rw [hc, bs_size, bs_size, br_pos (maxStr_ok (by rw [List.length_singleton]; omega)), cat_bs]
      have hs : (svs (ps ++ [w])).set ps.length (sv (bs (w ++ [l[i]]))) = svs (ps ++ [w ++ [l[i]]]) := by simp [svs]
      rw [hs]
      have := hrec (ps, w ++ [l[i]], i + 1) ⟨hi, h2, by simp only []; omega, by simp; omega⟩ (by simp only []; omega)
      simp only [encSp, outSp] at this
      simp only [outSp]
      rw [hd, splitW_cons, he, if_neg (by decide)]
      rw [show ((i : Int) + 1) = ((i + 1 : Nat) : Int) by omega]
      exact this
  · rw [br_noD (by omega)]
    simp only [outSp]
    rw [List.drop_eq_nil_of_le (by omega)]
    simp [splitW, splitL]

abbrev encSpp (l : List UInt8) (c : UInt8) (a : List (List UInt8) × List UInt8 × Nat) : Sref07_Parse_ref07_split_0 := .s0 (bs l) (c.toNat : Int) (a.2.2 : Int) (svs (a.1 ++ [a.2.1]))
abbrev PSpp (l : List UInt8) (a : List (List UInt8) × List UInt8 × Nat) : Prop := a.2.2 ≤ l.length ∧ l.length ≤ 1000000 ∧ a.1.length ≤ a.2.2 ∧ a.2.1.length ≤ a.2.2
def outSpp (l : List UInt8) (c : UInt8) (a : List (List UInt8) × List UInt8 × Nat) : Oref07_Parse_ref07_split_0 := .x0 (svs (a.1 ++ splitW c a.2.1 (l.drop a.2.2)))
theorem encSpp_inj {l : List UInt8} {c : UInt8} {x y : List (List UInt8) × List UInt8 × Nat} (h : encSpp l c x = encSpp l c y) : x = y := by
  obtain ⟨x1, x2, x3⟩ := x
  obtain ⟨y1, y2, y3⟩ := y
  simp only [encSpp, Sref07_Parse_ref07_split_0.s0.injEq, true_and] at h
  obtain ⟨h1, h2⟩ := h
  have h2 := svs_inj h2
  obtain ⟨h3, h4⟩ := List.append_inj' h2 rfl
  rw [h3, List.cons.inj h4 |>.1, show x3 = y3 by omega]
set_option maxHeartbeats 1000000 in
theorem l_Spp (K : PureK) (l : List UInt8) (c : UInt8) {a : List (List UInt8) × List UInt8 × Nat} (h : PSpp l a) : loopF (Rref07_Parse_ref07_split_0 K some) (encSpp l c) (PSpp l) (outSpp l c) (encSpp l c a) = some (outSpp l c a) := by
  refine loopF_eq (fun a => l.length - a.2.2) ?_ (fun x y h => by rw [encSpp_inj h]) h
  rintro ⟨ps, w, i⟩ rec ⟨h1, h2, h3, h4⟩ hrec
  simp only [] at h1 h2 h3 h4
  simp only [encSpp, Rref07_Parse_ref07_split_0, bs_size]
  by_cases hi : i < l.length
  · have hb : bt (bs l) ((i : Int)).toNat = (l[i].toNat : Int) := by rw [Int.toNat_natCast]; exact bt_get hi
    have c1 : decide ((i : Int) < ((l.length : Nat) : Int)) = true := decide_eq_true (by omega)
    have c2 : decide (0 ≤ (i : Int)) = true := decide_eq_true (by omega)
    have hlen : (svs (ps ++ [w])).length = ps.length + 1 := by simp [svs]
    have hd := List.drop_eq_getElem_cons hi
    have heq : (((l[i].toNat : Int)) == (c.toNat : Int)) = (l[i] == c) := by
      rw [Bool.eq_iff_iff, beq_iff_eq, beq_iff_eq]
      constructor
      · intro h; exact UInt8.toNat_inj.1 (by omega)
      · rintro h; rw [h]
    simp only [hb, c1, c2, br_t, heq, hlen]
    cases he : (l[i] == c) with
    | true =>
      rw [br_t, br_pos (lenOks_of (by omega) (by omega)), w64_id (n := (i : Int) + 1) (by omega) (by omega)]
      have := hrec (ps ++ [w], [], i + 1) ⟨hi, h2, by simp; omega, by simp⟩ (by simp only []; omega)
      simp only [encSpp, outSpp] at this
      simp only [outSpp]
      rw [hd, splitW_cons, he, if_pos rfl]
      rw [show ((i : Int) + 1) = ((i + 1 : Nat) : Int) by omega]
      have e1 : svs (ps ++ [w]) ++ [sv { data := #[] }] = svs (ps ++ [w] ++ [[]]) := by simp [svs]; rfl
      rw [e1, this]
      simp
    | false =>
      have e0 : (((ps.length + 1 : Nat) : Int) - 1) = (ps.length : Int) := by omega
      rw [br_f, e0, w64_id (n := (ps.length : Int)) (by omega) (by omega), Nat.zero_add, Int.toNat_natCast, w64_id (n := (i : Int) + 1) (by omega) (by omega)]
      have c3 : decide (0 ≤ (ps.length : Int)) = true := decide_eq_true (by omega)
      have c4 : decide ((ps.length : Int) < ((ps.length + 1 : Nat) : Int)) = true := decide_eq_true (by omega)
      have hg : (svs (ps ++ [w]))[ps.length]? = some (sv (bs w)) := by simp [svs]
      simp only [c3, c4, br_t, hg, optK_s, asStr_v]
      rw [br_yesD (by omega), br_yesD (by omega), cut_both, show ((i : Int) + 1).toNat = i + 1 by omega, Int.toNat_natCast]
      have hc : (l.take (i + 1)).drop i = [l[i]] := by
        rw [List.take_succ_eq_append_getElem hi, List.drop_append_of_le_length (by simp; omega), List.drop_eq_nil_of_le (by simp; omega)]; rfl
      rw [hc, bs_size, bs_size, br_pos (maxStr_ok (by rw [List.length_singleton]; omega)), cat_bs]
      have hs : (svs (ps ++ [w])).set ps.length (sv (bs (w ++ [l[i]]))) = svs (ps ++ [w ++ [l[i]]]) := by simp [svs]
      rw [hs]
      have := hrec (ps, w ++ [l[i]], i + 1) ⟨hi, h2, by simp only []; omega, by simp; omega⟩ (by simp only []; omega)
      simp only [encSpp, outSpp] at this
      simp only [outSpp]
      rw [hd, splitW_cons, he, if_neg (by decide)]
      rw [show ((i : Int) + 1) = ((i + 1 : Nat) : Int) by omega]
      exact this
  · rw [br_noD (by omega)]
    simp only [outSpp]
    rw [List.drop_eq_nil_of_le (by omega)]
    simp [splitW, splitL]

abbrev encS2 (x : List UInt8 × UInt8) : List AV := [sv (bs x.1), uv (x.2.toNat : Int)]
theorem t_split (x : List UInt8 × UInt8) (h : x.1.length ≤ 1000000) : PureCall X f_ref07_split (encS2 x) (.lst 1 false (svs (splitL x.2 x.1))) := by
  obtain ⟨l, c⟩ := x
  refine pcref07_split ok_nil (lref07_split_0 := loopF (Rref07_split_0 (tabK []) some) (encSp l c) (PSp l) (outSp l c)) loopF_ok ?_
  unfold Rref07_split
  have := l_Sp (tabK []) l c (a := ([], [], 0)) ⟨Nat.zero_le _, h, Nat.zero_le _, Nat.zero_le _⟩
  have h' : loopF (Rref07_split_0 (tabK []) some) (encSp l c) (PSp l) (outSp l c) (.s0 (bs l) (c.toNat : Int) 0 [sv { data := #[] }]) = some (outSp l c ([], [], 0)) := this
  simp only []
  rw [h']
  simp only [optK_s, outSp, Oref07_split_0.k, List.nil_append, List.drop_zero, splitW_nil]
noncomputable abbrev E_split := callF X f_ref07_split encS2 (fun x => x.1.length ≤ 1000000) fun x => .lst 1 false (svs (splitL x.2 x.1))
theorem k_split {T : Tab} (hT : tabK T f_ref07_split = E_split) (l : List UInt8) (c : UInt8) (h : l.length ≤ 1000000) : tabK T f_ref07_split [sv (bs l), uv (c.toNat : Int)] = some (.lst 1 false (svs (splitL c l))) := by
  rw [hT]
  exact callF_eq (enc := encS2) (P := fun x => x.1.length ≤ 1000000) (f := fun x => .lst 1 false (svs (splitL x.2 x.1))) t_split (fun x y h => by
    obtain ⟨x1, x2⟩ := x
    obtain ⟨y1, y2⟩ := y
    simp only [encS2, List.cons.injEq, AV.v.injEq, Value.string.injEq, Value.int.injEq, bs_inj_iff, and_true, true_and] at h
    rw [h.1, show x2 = y2 from UInt8.toNat_inj.1 (by omega)]) (a := (l, c)) h


theorem cal_cond {i : Int} (h0 : 0 ≤ i) (h : i < 12) (mon : List UInt8) : (decide (mon.length = 3) && eqFold (nameAt i) mon) = (mon.map lowB == (nameAt i).map lowB) := by
  have hn := nameAt_ok h0 h
  rw [eqFold_low _ _ hn.1]
  cases he : (mon.map lowB == (nameAt i).map lowB) with
  | false => rw [Bool.and_false]
  | true =>
    have := congrArg List.length (beq_iff_eq.1 he)
    simp only [List.length_map, hn.2] at this
    rw [this]; rfl
theorem calFrom_none {mon : List UInt8} {y d : Int} : ∀ (k : Nat) (i : Int), 0 ≤ i → i + k ≤ 12 → (∀ j : Int, i ≤ j → j < i + k → (mon.map lowB == (nameAt j).map lowB) = false) → calFrom true mon y d k i = none
  | 0, _, _, _, _ => rfl
  | k + 1, i, h0, hk, h => by
    unfold calFrom
    rw [Bool.true_and, cal_cond h0 (by omega), h i (by omega) (by omega)]
    exact calFrom_none k (i + 1) (by omega) (by omega) fun j h1 h2 => h j (by omega) (by omega)
theorem calFrom_mon {mon : List UInt8} {y d : Int} : ∀ (k : Nat) (i : Int), 0 ≤ i → i + k = 12 → calFrom true mon y d k i = if monFrom mon k (i + 1) = 0 then none else if thereI y (monFrom mon k (i + 1)) d then some (yday y + mday y (monFrom mon k (i + 1)) + d - 1) else none
  | 0, _, _, _ => rfl
  | k + 1, i, h0, hk => by
    unfold calFrom monFrom
    rw [Bool.true_and, cal_cond h0 (by omega), show i + 1 - 1 = i by omega]
    cases he : (mon.map lowB == (nameAt i).map lowB) with
    | false =>
      rw [Bool.false_and]
      exact calFrom_mon k (i + 1) (by omega) (by omega)
    | true =>
      rw [Bool.true_and]
      simp only [if_true]
      rw [if_neg (by omega)]
      cases ht : thereI y (i + 1) d with
      | true => rfl
      | false =>
        refine calFrom_none k (i + 1) (by omega) (by omega) fun j h1 h2 => ?_
        have he := beq_iff_eq.1 he
        rw [he]
        have := names_apart ⟨i.toNat, by omega⟩ ⟨j.toNat, by omega⟩
        simp only [show ((i.toNat : Nat) : Int) = i by omega, show ((j.toNat : Nat) : Int) = j by omega] at this
        rw [this]
        simp; omega
theorem calFrom_false {mon : List UInt8} {y d : Int} : ∀ (k : Nat) (i : Int), calFrom false mon y d k i = none
  | 0, _ => rfl
  | k + 1, i => by
    unfold calFrom
    exact calFrom_false k (i + 1)
noncomputable def tbY : Tab := [(f_ref07_num, E_num), (f_ref07_month, E_month), (f_ref07_there, e42), (f_ref07_number, e44)]
theorem tbY_ok : TabOk X tbY := tab_cons callQ_ok (tab_cons callQ_ok (tab_cons e43_ok (tab_cons e44_ok tab_nil)))
theorem monR_range (l : List UInt8) : ∀ (k : Nat) (m : Int), 1 ≤ m → 0 ≤ monFrom l k m
  | 0, _, _ => Int.le_refl 0
  | k + 1, m, h => by
    unfold monFrom
    split
    · omega
    · exact monR_range l k (m + 1) (by omega)
theorem t_ymd (d m y : List UInt8) (hm : m.length ≤ 1000000) : Rref07_ymd (tabK tbY) (bs d) (bs m) (bs y) = some (pairIB (calB d m y)) := by
  unfold Rref07_ymd calB
  rw [k_num (T := tbY) rfl _ _ _ (by decide), k_num (T := tbY) rfl _ _ _ (by decide), k_month (T := tbY) rfl _ hm]
  have h1 := numB_range d 1 2 (by decide)
  have h2 := numB_range y 4 4 (by decide)
  unfold numR
  generalize numB d 1 2 = p at h1 ⊢
  generalize numB y 4 4 = q at h2 ⊢
  obtain ⟨d, dk⟩ := p
  obtain ⟨y, yk⟩ := q
  simp only [] at h1 h2
  simp only [optK_s, asInt_v]
  have hcal := calFrom_mon (mon := m) (y := y) (d := d) 12 0 (by decide) (by decide)
  have hmr : monFrom m 12 (0 + 1) = monR m := rfl
  rw [hmr] at hcal
  cases dk with
  | false =>
    simp only [Bool.false_and, calFrom_false]
    rfl
  | true =>
    simp only [if_true, Bool.true_and]
    rw [br_noD (by omega)]
    by_cases hm0 : monR m = 0
    · rw [hm0] at hcal ⊢
      cases yk with
      | false => rw [calFrom_false]; rfl
      | true => rw [hcal]; rfl
    · rw [br_neg (by simpa using hm0)]
      cases yk with
      | false => rw [calFrom_false]; rfl
      | true =>
        simp only [if_true]
        rw [br_noD (by omega), show tabK tbY f_ref07_there [iv y, iv (monR m), iv d] = some (bv (thereI y (monR m) d)) from rfl]
        rw [hcal, if_neg hm0]
        simp only [optK_s, asBool_v]
        cases ht : thereI y (monR m) d with
        | false => rfl
        | true =>
          have := there_day ht
          simp only [Bool.not_true, br_f, if_true]
          rw [show tabK tbY f_ref07_number [iv y, iv (monR m), iv d] = br (decide (0 ≤ y ∧ y ≤ 9999 ∧ 1 ≤ monR m ∧ monR m ≤ 12 ∧ 1 ≤ d ∧ d ≤ 31)) (some (iv (yday y + mday y (monR m) + d - 1))) none from rfl, br_yesD (by omega)]
          rfl
noncomputable abbrev E_ymd := callF X f_ref07_ymd enc3 (fun x => x.2.1.length ≤ 1000000) fun x => pairIB (calB x.1 x.2.1 x.2.2)
theorem k_ymd {T : Tab} (hT : tabK T f_ref07_ymd = E_ymd) (a b c : List UInt8) (h : b.length ≤ 1000000) : tabK T f_ref07_ymd [sv (bs a), sv (bs b), sv (bs c)] = some (pairIB (calB a b c)) := by
  rw [hT]
  exact callF_eq (enc := enc3) (P := fun x => x.2.1.length ≤ 1000000) (f := fun x => pairIB (calB x.1 x.2.1 x.2.2)) (fun x h => pcref07_ymd (tab_ok _ tbY_ok) (t_ymd x.1 x.2.1 x.2.2 h)) (fun x y h => by rw [enc3_inj h]) (a := (a, b, c)) h

/-- A clock. -/
def clockR (l : List UInt8) (b : Bool) : Int := if (clockB l b).2 then (clockB l b).1 else -1
noncomputable def tbC2 : Tab := [(f_ref07_num, E_num), (f_ref07_split, E_split)]
theorem tbC2_ok : TabOk X tbC2 := tab_cons callQ_ok (tab_cons callQ_ok tab_nil)
theorem numR_range (l : List UInt8) (lo hi : Int) (h : hi ≤ 4) : -1 ≤ numR l lo hi ∧ numR l lo hi < 10000 := by
  unfold numR
  have := numB_range l lo hi h
  split <;> omega
theorem n00 : numB [48, 48] 2 2 = (0, true) := by decide
/-- Three parts, as either says. -/
theorem clk3 (a b c : List UInt8) : (match clockGo [a, b, c] 0 0 with | (n, true) => n | (_, false) => -1) = if numR a 2 2 < 0 ∨ numR a 2 2 > 23 ∨ numR b 2 2 < 0 ∨ numR b 2 2 > 59 ∨ numR c 2 2 < 0 ∨ numR c 2 2 > 59 then -1 else numR a 2 2 * 3600 + numR b 2 2 * 60 + numR c 2 2 := by
  have ha := numB_range a 2 2 (by decide)
  have hb := numB_range b 2 2 (by decide)
  have hc := numB_range c 2 2 (by decide)
  unfold numR
  simp only [clockGo]
  generalize numB a 2 2 = a at ha ⊢
  generalize numB b 2 2 = b at hb ⊢
  generalize numB c 2 2 = c at hc ⊢
  obtain ⟨a, ak⟩ := a
  obtain ⟨b, bk⟩ := b
  obtain ⟨c, ck⟩ := c
  simp only [] at ha hb hc
  cases ak with
  | false => simp
  | true =>
    by_cases h1 : a > 23
    · have : (!true || (decide (a > 59) || ((0 : Int) == 0 && decide (a > 23)))) = true := by simp [h1]
      simp only [this]
      rw [if_pos (.inr (.inl (by simpa using h1)))]
    · have : (!true || (decide (a > 59) || ((0 : Int) == 0 && decide (a > 23)))) = false := by simp; omega
      simp only [this]
      cases bk with
      | false => simp
      | true =>
        by_cases h2 : b > 59
        · have : (!true || (decide (b > 59) || ((0 : Int) + 1 == 0 && decide (b > 23)))) = true := by simp [h2]
          simp only [this]
          rw [if_pos (by simp; omega)]
        · have : (!true || (decide (b > 59) || ((0 : Int) + 1 == 0 && decide (b > 23)))) = false := by simp; omega
          simp only [this]
          cases ck with
          | false => simp
          | true =>
            by_cases h3 : c > 59
            · have : (!true || (decide (c > 59) || ((0 : Int) + 1 + 1 == 0 && decide (c > 23)))) = true := by simp [h3]
              simp only [this]
              rw [if_pos (by simp; omega)]
            · have : (!true || (decide (c > 59) || ((0 : Int) + 1 + 1 == 0 && decide (c > 23)))) = false := by simp; omega
              simp only [this]
              rw [if_neg (by simp; omega)]
              simp
              omega

theorem clockR_val (l : List UInt8) (b : Bool) : clockR l b = if (clkP l b).length = 3 then (match clockGo (clkP l b) 0 0 with | (n, true) => n | (_, false) => -1) else -1 := by
  unfold clockR clockB
  by_cases h : (clkP l b).length = 3
  · rw [if_pos h, if_pos h]
    generalize clockGo (clkP l b) 0 0 = p
    obtain ⟨n, ok⟩ := p
    cases ok <;> rfl
  · rw [if_neg h, if_neg h]; rfl
set_option maxHeartbeats 1000000 in
theorem t_clockR (l : List UInt8) (short : Bool) (hl : l.length ≤ 1000000) : Rref07_clock (tabK tbC2) (bs l) short = some (iv (clockR l short)) := by
  unfold Rref07_clock
  rw [clockR_val]
  have hk : tabK tbC2 f_ref07_split [sv (bs l), uv 58] = some (.lst 1 false (svs (splitL 58 l))) := k_split (T := tbC2) rfl l 58 hl
  rw [hk]
  simp only [optK_s, asLst_v]
  unfold clkP
  generalize splitL 58 l = ps
  have hnum : ∀ x, tabK tbC2 f_ref07_num [sv (bs x), iv 2, iv 2] = some (iv (numR x 2 2)) := fun x => k_num (T := tbC2) rfl x 2 2 (by decide)
  have hask : ∀ a b : Int, br (decide (a < 0)) (some (bv true)) (br (decide (a > 23)) (some (bv true)) (br (decide (b < 0)) (some (bv true)) (br (decide (b > 59)) (some (bv true)) (some (bv false))))) = some (bv (decide (a < 0 ∨ a > 23 ∨ b < 0 ∨ b > 59))) := by
    intro a b
    by_cases h1 : a < 0
    · simp [h1, br]
    · by_cases h2 : a > 23
      · simp [h1, h2, br]
      · by_cases h3 : b < 0
        · simp [h1, h2, h3, br]
        · by_cases h4 : b > 59
          · simp [h1, h2, h3, h4, br]
          · simp [h1, h2, h3, h4, br]
  have hask3 : ∀ a b c : Int, br (decide (a < 0)) (some (bv true)) (br (decide (a > 23)) (some (bv true)) (br (decide (b < 0)) (some (bv true)) (br (decide (b > 59)) (some (bv true)) (br (decide (c < 0)) (some (bv true)) (some (bv (decide (c > 59)))))))) = some (bv (decide (a < 0 ∨ a > 23 ∨ b < 0 ∨ b > 59 ∨ c < 0 ∨ c > 59))) := by
    intro a b c
    by_cases h1 : a < 0
    · simp [h1, br]
    · by_cases h2 : a > 23
      · simp [h1, h2, br]
      · by_cases h3 : b < 0
        · simp [h1, h2, h3, br]
        · by_cases h4 : b > 59
          · simp [h1, h2, h3, h4, br]
          · by_cases h5 : c < 0
            · simp [h1, h2, h3, h4, h5, br]
            · simp [h1, h2, h3, h4, h5, br]
  match ps with
  | [] => cases short <;> rfl
  | [_] => cases short <;> rfl
  | [a, b] =>
    cases short with
    | false => rfl
    | true =>
      have ha := numR_range a 2 2 (by decide)
      have hb := numR_range b 2 2 (by decide)
      show _ = some (iv (match clockGo [a, b, [48, 48]] 0 0 with | (n, true) => n | (_, false) => -1))
      rw [clk3]
      have h0 : numR [48, 48] 2 2 = 0 := by unfold numR; rw [n00]; rfl
      rw [h0]
      have q0 : decide (0 < (((svs [a, b]).length : Nat) : Int)) = true := rfl
      have q1 : decide (1 < (((svs [a, b]).length : Nat) : Int)) = true := rfl
      have q2 : ((((svs [a, b]).length : Nat) : Int) != 3) = true := rfl
      have q3 : ((((svs [a, b]).length : Nat) : Int) == 2) = true := rfl
      have q4 : ((((svs [a, b]).length : Nat) : Int) == 3) = false := rfl
      have g0 : (svs [a, b])[0]? = some (sv (bs a)) := rfl
      have g1 : (svs [a, b])[1]? = some (sv (bs b)) := rfl
      simp only [q0, q1, q2, q3, q4, g0, g1, br_t, br_f, optK_s, asBool_v, asStr_v, Bool.not_true, hnum, asInt_v, hask]
      by_cases hc : numR a 2 2 < 0 ∨ numR a 2 2 > 23 ∨ numR b 2 2 < 0 ∨ numR b 2 2 > 59
      · rw [br_yesD hc, if_pos (by omega)]
      · rw [br_noD hc, if_neg (by omega), w64_id (n := numR a 2 2 * 3600) (by omega) (by omega), w64_id (n := numR b 2 2 * 60) (by omega) (by omega), w64_id (n := numR a 2 2 * 3600 + numR b 2 2 * 60) (by omega) (by omega), w64_id (by omega) (by omega)]
  | [a, b, c] =>
    have hs : (if (short && decide ([a, b, c].length = 2)) = true then [a, b, c] ++ [[48, 48]] else [a, b, c]) = [a, b, c] := by cases short <;> rfl
    rw [hs]
    show _ = some (iv (match clockGo [a, b, c] 0 0 with | (n, true) => n | (_, false) => -1))
    rw [clk3]
    have ha := numR_range a 2 2 (by decide)
    have hb := numR_range b 2 2 (by decide)
    have hc := numR_range c 2 2 (by decide)
    have q0 : decide (0 < (((svs [a, b, c]).length : Nat) : Int)) = true := rfl
    have q1 : decide (1 < (((svs [a, b, c]).length : Nat) : Int)) = true := rfl
    have q2 : ((((svs [a, b, c]).length : Nat) : Int) != 3) = false := rfl
    have q3 : decide (2 < (((svs [a, b, c]).length : Nat) : Int)) = true := rfl
    have q4 : ((((svs [a, b, c]).length : Nat) : Int) == 3) = true := rfl
    have g0 : (svs [a, b, c])[0]? = some (sv (bs a)) := rfl
    have g1 : (svs [a, b, c])[1]? = some (sv (bs b)) := rfl
    have g2 : (svs [a, b, c])[2]? = some (sv (bs c)) := rfl
    simp only [q0, q1, q2, q3, q4, g0, g1, g2, br_t, br_f, optK_s, asBool_v, asStr_v, hnum, asInt_v, hask3]
    by_cases hd : numR a 2 2 < 0 ∨ numR a 2 2 > 23 ∨ numR b 2 2 < 0 ∨ numR b 2 2 > 59 ∨ numR c 2 2 < 0 ∨ numR c 2 2 > 59
    · rw [br_yesD hd, if_pos hd]
    · rw [br_noD hd, if_neg hd, w64_id (n := numR a 2 2 * 3600) (by omega) (by omega), w64_id (n := numR b 2 2 * 60) (by omega) (by omega), w64_id (n := numR a 2 2 * 3600 + numR b 2 2 * 60) (by omega) (by omega), w64_id (by omega) (by omega)]
  | a :: b :: c :: d :: r =>
    have hs : (if (short && decide ((a :: b :: c :: d :: r).length = 2)) = true then (a :: b :: c :: d :: r) ++ [[48, 48]] else (a :: b :: c :: d :: r)) = (a :: b :: c :: d :: r) := by
      rw [if_neg (by simp)]
    rw [hs, if_neg (by simp), svs_length]
    have q2 : ((((a :: b :: c :: d :: r).length : Nat) : Int) != 3) = true := by simp; omega
    have q3 : ((((a :: b :: c :: d :: r).length : Nat) : Int) == 2) = false := by simp; omega
    simp only [q2, q3, br_t]
    cases short <;> rfl
noncomputable abbrev E_clockR := callF X f_ref07_clock encKb (fun x => x.1.length ≤ 1000000) fun x => iv (clockR x.1 x.2)
theorem k_clockR {T : Tab} (hT : tabK T f_ref07_clock = E_clockR) (l : List UInt8) (b : Bool) (h : l.length ≤ 1000000) : tabK T f_ref07_clock [sv (bs l), bv b] = some (iv (clockR l b)) := by
  rw [hT]
  exact callF_eq (enc := encKb) (P := fun x => x.1.length ≤ 1000000) (f := fun x => iv (clockR x.1 x.2)) (fun x hx => pcref07_clock (tab_ok _ tbC2_ok) (t_clockR x.1 x.2 hx)) (fun x y h => by
    obtain ⟨x1, x2⟩ := x
    obtain ⟨y1, y2⟩ := y
    simp only [encKb, List.cons.injEq, AV.v.injEq, Value.string.injEq, Value.bool.injEq, bs_inj_iff, and_true] at h
    rw [h.1, h.2]) (a := (l, b)) h

theorem num4 (a b c d : UInt8) : numB [a, b, c, d] 4 4 = if (numB [a, b] 2 2).2 && (numB [c, d] 2 2).2 then ((numB [a, b] 2 2).1 * 100 + (numB [c, d] 2 2).1, true) else (0, false) := by
  unfold numB
  simp only [List.length_cons, List.length_nil, List.all_cons, List.all_nil, Bool.and_true, numGo]
  cases isDig a <;> cases isDig b <;> cases isDig c <;> cases isDig d <;> simp
  omega
noncomputable def tbZ2 : Tab := [(f_ref07_num, E_num)]
theorem tbZ2_ok : TabOk X tbZ2 := tab_cons callQ_ok tab_nil
theorem t_zoneR (l : List UInt8) : Rref07_zone (tabK tbZ2) (bs l) = some (pairIB (zoneB l)) := by
  unfold Rref07_zone
  rw [bs_size]
  have hnum : ∀ x, tabK tbZ2 f_ref07_num [sv (bs x), iv 2, iv 2] = some (iv (numR x 2 2)) := fun x => k_num (T := tbZ2) rfl x 2 2 (by decide)
  by_cases h5 : l.length = 5
  · match l, h5 with
    | [z, a, b, c, d], _ =>
      have c0 : ((([z, a, b, c, d] : List UInt8).length : Int) != 5) = false := rfl
      have c1 : decide (0 < (([z, a, b, c, d] : List UInt8).length : Int)) = true := rfl
      have c2 : decide (3 ≤ (([z, a, b, c, d] : List UInt8).length : Int)) = true := rfl
      have b0 : bt (bs [z, a, b, c, d]) 0 = (z.toNat : Int) := bt_get (l := [z, a, b, c, d]) (i := 0) (by simp)
      have s1 : cutStr (bs [z, a, b, c, d]) (some 1) (some 3) = bs [a, b] := by rw [cut_both]; rfl
      have s2 : cutStr (bs [z, a, b, c, d]) (some 3) none = bs [c, d] := by rw [cut_from]; rfl
      simp only [c0, c1, c2, b0, br_t, br_f, s1, s2, hnum]
      have hz : ∀ n : Nat, n < 256 → (((z.toNat : Int)) == (n : Int)) = (z == UInt8.ofNat n) := by
        intro n hn
        rw [Bool.eq_iff_iff, beq_iff_eq, beq_iff_eq]
        constructor
        · intro h; rw [← show z.toNat = n by omega, UInt8.ofNat_toNat]
        · rintro rfl; simp; omega
      have h43 : ((z.toNat : Int) != 43) = !(z == 43) := by unfold bne; rw [show ((43 : Int)) = ((43 : Nat) : Int) from rfl, hz 43 (by decide)]; rfl
      have h45 : ((z.toNat : Int) != 45) = !(z == 45) := by unfold bne; rw [show ((45 : Int)) = ((45 : Nat) : Int) from rfl, hz 45 (by decide)]; rfl
      have h45' : ((z.toNat : Int) == 45) = (z == 45) := by rw [show ((45 : Int)) = ((45 : Nat) : Int) from rfl, hz 45 (by decide)]; rfl
      rw [h43, h45, h45']
      unfold zoneB
      simp only []
      rw [num4]
      have ha := numB_range [a, b] 2 2 (by decide)
      have hc := numB_range [c, d] 2 2 (by decide)
      have hc2 : (numB [c, d] 2 2).1 < 100 := by
        unfold numB
        split
        · decide
        · rename_i h
          have h3 : [c, d].all isDig = true := by
            cases h4 : [c, d].all isDig with
            | true => rfl
            | false => exact absurd (.inr (.inr h4)) h
          have := (numGo_range [c, d] 0 h3 (by decide)).2
          simpa using this
      unfold numR
      generalize numB [a, b] 2 2 = p at ha ⊢
      generalize numB [c, d] 2 2 = q at hc hc2 ⊢
      obtain ⟨p, pk⟩ := p
      obtain ⟨q, qk⟩ := q
      simp only [] at ha hc hc2
      simp only [optK_s, asInt_v]
      have e1 : br (!(z == 43)) (some (bv !(z == 45))) (some (bv false)) = some (bv (!(z == 43) && !(z == 45))) := by
        cases (z == 43) <;> rfl
      rw [e1]
      simp only [optK_s, asBool_v]
      cases hz1 : (z == 43) with
      | true =>
        have hz1 := beq_iff_eq.1 hz1
        subst hz1
        simp only [Bool.not_true, Bool.false_and, br_f]
        cases pk with
        | false => rfl
        | true =>
          simp only [if_true, Bool.true_and]
          rw [br_noD (by omega)]
          cases qk with
          | false => rfl
          | true =>
            simp only [if_true]
            rw [br_noD (by omega)]
            simp only [optK_s, asBool_v]
            by_cases h6 : q > 59
            · rw [br_yesD h6, if_pos (by simp; omega)]; rfl
            · rw [br_noD h6, if_neg (by simp; omega), show ((43 : UInt8) == 45) = false from rfl, br_f, w64_id (n := p * 3600) (by omega) (by omega), w64_id (n := q * 60) (by omega) (by omega), w64_id (by omega) (by omega)]
              refine congrArg some ?_
              simp only [pairIB, if_true]
              congr 3
              omega
      | false =>
        have hz1 : z ≠ 43 := by simpa using hz1
        simp only [Bool.not_false, Bool.true_and]
        cases hz2 : (z == 45) with
        | false =>
          have hz2 : z ≠ 45 := by simpa using hz2
          rw [Bool.not_false, br_t, if_neg hz1, if_neg hz2, ite_self]
          rfl
        | true =>
          have hz2 := beq_iff_eq.1 hz2
          subst hz2
          rw [Bool.not_true, br_f, if_neg hz1, if_pos rfl]
          cases pk with
          | false => rfl
          | true =>
            simp only [if_true, Bool.true_and]
            rw [br_noD (by omega)]
            cases qk with
            | false => rfl
            | true =>
              simp only [if_true]
              rw [br_noD (by omega)]
              simp only [optK_s, asBool_v]
              by_cases h6 : q > 59
              · rw [br_yesD h6, if_pos (by simp; omega)]; rfl
              · rw [br_noD h6, if_neg (by simp; omega), br_t, w64_id (n := p * 3600) (by omega) (by omega), w64_id (n := q * 60) (by omega) (by omega), w64_id (n := p * 3600 + q * 60) (by omega) (by omega), w64_id (by omega) (by omega)]
                refine congrArg some ?_
                simp only [pairIB]
                congr 3
                omega
  · rw [br_pos (by simp; omega)]
    have : zoneB l = (0, false) := by
      unfold zoneB
      split
      · simp at h5
      · rfl
    rw [this]; rfl
noncomputable abbrev E_zoneR := callF X f_ref07_zone encB1 (fun _ => True) fun l => pairIB (zoneB l)
theorem k_zoneR {T : Tab} (hT : tabK T f_ref07_zone = E_zoneR) (l : List UInt8) : tabK T f_ref07_zone [sv (bs l)] = some (pairIB (zoneB l)) := by
  rw [hT]
  exact callF_eq (enc := encB1) (P := fun _ => True) (f := fun l => pairIB (zoneB l)) (fun l _ => pcref07_zone (tab_ok _ tbZ2_ok) (t_zoneR l)) (fun x y h => by rw [encB1_inj h]) trivial
end Go.Proofs.YtmiffikcnkgcpaaGreatDoor
