/- The calendar, in plain numbers. -/
import Derived.Test.YtmiffikcnkgcpaaGreatDoorAbTell
namespace Go.Ab
open Go

def leapI (y : Int) : Bool := (y % 4 == 0 && y % 100 != 0) || y % 400 == 0
def li (y : Int) : Int := match leapI y with | true => 1 | false => 0
theorem li_cases (y : Int) : (leapI y = true ∧ li y = 1) ∨ (leapI y = false ∧ li y = 0) := by
  unfold li; cases leapI y <;> simp
theorem leapI_iff (y : Int) : leapI y = true ↔ (y % 4 = 0 ∧ y % 100 ≠ 0) ∨ y % 400 = 0 := by
  unfold leapI; simp
def leapsI (y : Int) : Int := if y = 0 then 0 else (y - 1) / 4 - (y - 1) / 100 + (y - 1) / 400 + 1
def lengthI (y : Int) : Int := 365 + li y
/-- The first day of a year. -/
def yday (y : Int) : Int := (y - 1970) * 365 + leapsI y - 478

theorem yday_succ {y : Int} (h : 0 ≤ y) : yday (y + 1) = yday y + lengthI y := by
  have hl : leapsI (y + 1) = leapsI y + li y := by
    unfold leapsI
    rcases li_cases y with ⟨h1, h2⟩ | ⟨h1, h2⟩
    · rw [leapI_iff] at h1
      rw [h2]
      split <;> split <;> omega
    · have h1' : ¬ ((y % 4 = 0 ∧ y % 100 ≠ 0) ∨ y % 400 = 0) := fun h => by rw [(leapI_iff y).2 h] at h1; cases h1
      rw [h2]
      split <;> split <;> omega
  unfold yday lengthI
  omega

theorem lengthI_pos (y : Int) : 365 ≤ lengthI y ∧ lengthI y ≤ 366 := by
  unfold lengthI; rcases li_cases y with ⟨_, h⟩ | ⟨_, h⟩ <;> omega

def aheadI (m : Int) : Int := [0, 31, 59, 90, 120, 151, 181, 212, 243, 273, 304, 334, 365].getD m.toNat 0
/-- The days of a year ahead of a month. -/
def mday (y m : Int) : Int := aheadI (m - 1) + (if m > 2 then li y else 0)
def daysI (y m : Int) : Int := if m = 2 then 28 + li y else if m = 4 ∨ m = 6 ∨ m = 9 ∨ m = 11 then 30 else 31

theorem months {m : Int} (h1 : 1 ≤ m) (h2 : m ≤ 12) : m = 1 ∨ m = 2 ∨ m = 3 ∨ m = 4 ∨ m = 5 ∨ m = 6 ∨ m = 7 ∨ m = 8 ∨ m = 9 ∨ m = 10 ∨ m = 11 ∨ m = 12 := by omega

theorem mday_one (y : Int) : mday y 1 = 0 := rfl
theorem mday_end (y : Int) : mday y 13 = lengthI y := by
  show (365 : Int) + li y = _; rfl
theorem mday_succ {y m : Int} (h1 : 1 ≤ m) (h2 : m ≤ 12) : mday y (m + 1) = mday y m + daysI y m := by
  rcases months h1 h2 with rfl | rfl | rfl | rfl | rfl | rfl | rfl | rfl | rfl | rfl | rfl | rfl <;> simp [mday, daysI, aheadI] <;> omega

theorem daysI_pos {y m : Int} : 28 ≤ daysI y m ∧ daysI y m ≤ 31 := by
  unfold daysI; rcases li_cases y with ⟨_, h⟩ | ⟨_, h⟩ <;> split <;> (try split) <;> omega

theorem mday_range {y m : Int} (h1 : 1 ≤ m) (h2 : m ≤ 13) : 0 ≤ mday y m ∧ mday y m ≤ 366 := by
  have : m = 13 ∨ m ≤ 12 := by omega
  rcases li_cases y with ⟨_, h⟩ | ⟨_, h⟩ <;> rcases this with rfl | h3
  all_goals first
    | (simp [mday, aheadI, h]; done)
    | (rcases months h1 h3 with rfl | rfl | rfl | rfl | rfl | rfl | rfl | rfl | rfl | rfl | rfl | rfl <;> simp [mday, aheadI, h])

/-- Does a day lie in this year, month, day of the month? -/
structure Civil (day y m d : Int) : Prop where
  y1 : 1970 ≤ y
  y2 : y ≤ 9999
  m1 : 1 ≤ m
  m2 : m ≤ 12
  d1 : 1 ≤ d
  d2 : d ≤ daysI y m
  eq : yday y + mday y m + d - 1 = day

theorem yday_mono {a b : Int} (ha : 0 ≤ a) (hab : a ≤ b) : yday a + 365 * (b - a) ≤ yday b := by
  obtain ⟨n, hn⟩ : ∃ n : Nat, b = a + n := ⟨(b - a).toNat, by omega⟩
  subst hn
  induction n with
  | zero => simp
  | succ n ih =>
    have h1 := ih (by omega)
    have h2 := yday_succ (y := a + n) (by omega)
    have h3 := lengthI_pos (a + n)
    have h4 : a + ((n + 1 : Nat) : Int) = a + n + 1 := by omega
    rw [h4]
    omega

theorem mday_mono {y a b : Int} (ha : 1 ≤ a) (hab : a ≤ b) (hb : b ≤ 13) : mday y a + 28 * (b - a) ≤ mday y b := by
  obtain ⟨n, hn⟩ : ∃ n : Nat, b = a + n := ⟨(b - a).toNat, by omega⟩
  subst hn
  induction n with
  | zero => simp
  | succ n ih =>
    have h1 := ih (by omega) (by omega)
    have h2 := mday_succ (y := y) (m := a + n) (by omega) (by omega)
    have h3 := @daysI_pos y (a + n)
    have h4 : a + ((n + 1 : Nat) : Int) = a + n + 1 := by omega
    rw [h4]
    omega

theorem Civil.inYear {day y m d : Int} (h : Civil day y m d) : yday y ≤ day ∧ day < yday (y + 1) := by
  have h1 := mday_range (y := y) h.m1 (by have := h.m2; omega)
  have h2 := mday_succ (y := y) h.m1 h.m2
  have h3 := mday_mono (y := y) (a := m + 1) (b := 13) (by have := h.m1; omega) (by have := h.m2; omega) (by omega)
  rw [mday_end] at h3
  have h4 := yday_succ (y := y) (by have := h.y1; omega)
  obtain ⟨a1, a2, a3, a4, a5, a6, a7⟩ := h
  omega

theorem Civil.unique {day y m d y' m' d' : Int} (h : Civil day y m d) (h' : Civil day y' m' d') : y = y' ∧ m = m' ∧ d = d' := by
  have i1 := h.inYear
  have i2 := h'.inYear
  have hy : y = y' := by
    rcases Int.lt_trichotomy y y' with hlt | heq | hlt
    · have := yday_mono (a := y + 1) (b := y') (by have := h.y1; omega) (by omega); omega
    · exact heq
    · have := yday_mono (a := y' + 1) (b := y) (by have := h'.y1; omega) (by omega); omega
  subst hy
  have hm : m = m' := by
    rcases Int.lt_trichotomy m m' with hlt | heq | hlt
    · have h1 := mday_succ (y := y) h.m1 h.m2
      have h2 := mday_mono (y := y) (a := m + 1) (b := m') (by have := h.m1; omega) (by omega) (by have := h'.m2; omega)
      have := h.eq; have := h'.eq; have := h.d2; have := h'.d1; omega
    · exact heq
    · have h1 := mday_succ (y := y) h'.m1 h'.m2
      have h2 := mday_mono (y := y) (a := m' + 1) (b := m) (by have := h'.m1; omega) (by omega) (by have := h.m2; omega)
      have := h.eq; have := h'.eq; have := h'.d2; have := h.d1; omega
  subst hm
  exact ⟨rfl, rfl, by have := h.eq; have := h'.eq; omega⟩

/-- The year, from one on (by the program's way). -/
def yearGo (day : Int) : Nat → Int → Int
  | 0, y => y
  | n + 1, y => if yday (y + 1) ≤ day then yearGo day n (y + 1) else y
def monthGo (day y : Int) : Nat → Int → Int
  | 0, m => m
  | n + 1, m => if yday y + mday y (m + 1) ≤ day then monthGo day y n (m + 1) else m

theorem yearGo_spec (day : Int) : ∀ (n : Nat) (y : Int), (9999 - y).toNat = n → 1970 ≤ y → y ≤ 9999 → yday y ≤ day → day ≤ 2932896 →
    1970 ≤ yearGo day n y ∧ yearGo day n y ≤ 9999 ∧ yday (yearGo day n y) ≤ day ∧ day < yday (yearGo day n y + 1) := by
  intro n
  induction n with
  | zero =>
    intro y hn h1 h2 h3 h4
    obtain rfl : y = 9999 := by omega
    refine ⟨by simp [yearGo], by simp [yearGo], by simpa [yearGo] using h3, ?_⟩
    have : yday (9999 + 1) = 2932897 := by decide
    simp only [yearGo]
    omega
  | succ n ih =>
    intro y hn h1 h2 h3 h4
    unfold yearGo
    split
    · rename_i hc
      exact ih (y + 1) (by omega) (by omega) (by omega) hc h4
    · exact ⟨h1, h2, h3, by omega⟩

theorem monthGo_spec (day y : Int) (hy : day < yday (y + 1)) (hy0 : 0 ≤ y) : ∀ (n : Nat) (m : Int), (12 - m).toNat = n → 1 ≤ m → m ≤ 12 → yday y + mday y m ≤ day →
    1 ≤ monthGo day y n m ∧ monthGo day y n m ≤ 12 ∧ yday y + mday y (monthGo day y n m) ≤ day ∧ day < yday y + mday y (monthGo day y n m + 1) := by
  intro n
  induction n with
  | zero =>
    intro m hn h1 h2 h3
    obtain rfl : m = 12 := by omega
    have h4 := mday_end y
    have h5 := yday_succ hy0
    refine ⟨by simp [monthGo], by simp [monthGo], by simpa [monthGo] using h3, ?_⟩
    simp only [monthGo]
    rw [show (12 : Int) + 1 = 13 from rfl, h4]
    omega
  | succ n ih =>
    intro m hn h1 h2 h3
    unfold monthGo
    split
    · rename_i hc
      exact ih (m + 1) (by omega) (by omega) (by omega) hc
    · exact ⟨h1, h2, h3, by omega⟩

/-- The reference's way. -/
def civY : Nat → Int → Int → Int × Int
  | 0, r, y => (r, y)
  | n + 1, r, y => if r ≥ lengthI y then civY n (r - lengthI y) (y + 1) else (r, y)
def civM (y : Int) : Nat → Int → Int → Int × Int
  | 0, r, m => (r, m)
  | n + 1, r, m => if r ≥ daysI y m then civM y n (r - daysI y m) (m + 1) else (r, m)

theorem civY_spec : ∀ (n : Nat) (r y : Int), (9999 - y).toNat = n → 1970 ≤ y → y ≤ 9999 → 0 ≤ r → r + yday y ≤ 2932896 →
    0 ≤ (civY n r y).1 ∧ (civY n r y).1 < lengthI (civY n r y).2 ∧ 1970 ≤ (civY n r y).2 ∧ (civY n r y).2 ≤ 9999 ∧ (civY n r y).1 + yday (civY n r y).2 = r + yday y := by
  intro n
  induction n with
  | zero =>
    intro r y hn h1 h2 h3 h4
    obtain rfl : y = 9999 := by omega
    have e1 : yday 9999 = 2932532 := by decide
    have e2 : lengthI 9999 = 365 := by decide
    show 0 ≤ r ∧ r < lengthI 9999 ∧ (1970 : Int) ≤ 9999 ∧ (9999 : Int) ≤ 9999 ∧ r + yday 9999 = r + yday 9999
    omega
  | succ n ih =>
    intro r y hn h1 h2 h3 h4
    unfold civY
    split
    · rename_i hc
      have := yday_succ (y := y) (by omega)
      have := ih (r - lengthI y) (y + 1) (by omega) (by omega) (by omega) (by omega) (by omega)
      omega
    · exact ⟨h3, by show r < lengthI y; omega, h1, h2, rfl⟩

theorem civM_spec (y : Int) : ∀ (n : Nat) (r m : Int), (12 - m).toNat = n → 1 ≤ m → m ≤ 12 → 0 ≤ r → r + mday y m < lengthI y →
    0 ≤ (civM y n r m).1 ∧ (civM y n r m).1 < daysI y (civM y n r m).2 ∧ 1 ≤ (civM y n r m).2 ∧ (civM y n r m).2 ≤ 12 ∧ (civM y n r m).1 + mday y (civM y n r m).2 = r + mday y m := by
  intro n
  induction n with
  | zero =>
    intro r m hn h1 h2 h3 h4
    obtain rfl : m = 12 := by omega
    have e1 := mday_succ (y := y) (m := 12) (by omega) (by omega)
    rw [show (12 : Int) + 1 = 13 from rfl, mday_end] at e1
    show 0 ≤ r ∧ r < daysI y 12 ∧ (1 : Int) ≤ 12 ∧ (12 : Int) ≤ 12 ∧ r + mday y 12 = r + mday y 12
    omega
  | succ n ih =>
    intro r m hn h1 h2 h3 h4
    unfold civM
    split
    · rename_i hc
      have := mday_succ (y := y) (m := m) (by omega) (by omega)
      have := ih (r - daysI y m) (m + 1) (by omega) (by omega) (by omega) (by omega) (by omega)
      omega
    · exact ⟨h3, by show r < daysI y m; omega, h1, h2, rfl⟩

/-- The program's date of a day. -/
def civP (day : Int) : Int × Int × Int :=
  let y := yearGo day (9999 - (1970 + day / 366)).toNat (1970 + day / 366)
  let m := monthGo day y 11 1
  (y, m, day - (yday y + mday y m) + 1)
/-- The reference's. -/
def civR (day : Int) : Int × Int × Int :=
  let a := civY 8029 day 1970
  let b := civM a.2 11 a.1 1
  (a.2, b.2, b.1 + 1)

theorem start_ok {day : Int} (h1 : 0 ≤ day) (h2 : day ≤ 2932896) : 1970 ≤ 1970 + day / 366 ∧ 1970 + day / 366 ≤ 9999 ∧ yday (1970 + day / 366) ≤ day := by
  refine ⟨by omega, by omega, ?_⟩
  have hb : ∀ n : Nat, yday (1970 + (n : Int)) ≤ 366 * n := by
    intro n
    induction n with
    | zero => decide
    | succ n ih =>
      have h1 := yday_succ (y := 1970 + (n : Int)) (by omega)
      have h2 := lengthI_pos (1970 + (n : Int))
      have h3 : 1970 + ((n + 1 : Nat) : Int) = 1970 + n + 1 := by omega
      rw [h3]; omega
  have := hb (day / 366).toNat
  rw [show (((day / 366).toNat : Nat) : Int) = day / 366 by omega] at this
  omega

theorem civP_spec {day : Int} (h1 : 0 ≤ day) (h2 : day ≤ 2932896) : Civil day (civP day).1 (civP day).2.1 (civP day).2.2 := by
  obtain ⟨a, b, c⟩ := start_ok h1 h2
  have hy := yearGo_spec day _ (1970 + day / 366) rfl a b c h2
  have hm := monthGo_spec day (yearGo day (9999 - (1970 + day / 366)).toNat (1970 + day / 366)) hy.2.2.2 (by omega) 11 1 (by decide) (by omega) (by omega) (by rw [mday_one]; omega)
  have hs := mday_succ (y := yearGo day (9999 - (1970 + day / 366)).toNat (1970 + day / 366)) hm.1 hm.2.1
  refine ⟨hy.1, hy.2.1, hm.1, hm.2.1, ?_, ?_, ?_⟩ <;> simp only [civP] <;> omega

theorem civR_spec {day : Int} (h1 : 0 ≤ day) (h2 : day ≤ 2932896) : Civil day (civR day).1 (civR day).2.1 (civR day).2.2 := by
  have e0 : yday 1970 = 0 := by decide
  have hy := civY_spec 8029 day 1970 (by decide) (by omega) (by omega) h1 (by omega)
  have hm := civM_spec (civY 8029 day 1970).2 11 (civY 8029 day 1970).1 1 (by decide) (by omega) (by omega) hy.1 (by rw [mday_one]; omega)
  rw [mday_one] at hm
  refine ⟨hy.2.2.1, hy.2.2.2.1, hm.2.2.1, hm.2.2.2.1, ?_, ?_, ?_⟩ <;> simp only [civR] <;> omega

theorem civ_same {day : Int} (h1 : 0 ≤ day) (h2 : day ≤ 2932896) : civP day = civR day := by
  obtain ⟨a, b, c⟩ := (civP_spec h1 h2).unique (civR_spec h1 h2)
  exact Prod.ext a (Prod.ext b c)
end Go.Ab
