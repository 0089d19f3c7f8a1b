import Derived.Test.YtphbfkncimifoaaDoorTokA
set_option linter.unusedVariables false
set_option linter.unusedSimpArgs false
set_option maxRecDepth 100000
namespace Go.Proofs.YtphbfkncimifoaaDoor
/- What a reader of lines and literals does, told byte by byte: plain. -/
open Go Go.Ab

structure TIn where
  ps : List (List UInt8)
  text : List UInt8
  mode : Int
  need : Int
abbrev TOut := Int × List (List UInt8)
def TIn.av (i : TIn) (n : Bool) : AV := .agg [.lst 1 n (svL i.ps), sv (bs i.text), iv i.mode, iv i.need]
def outAV (o : TOut) : AV := .agg [iv o.1, .lst 1 o.2.isEmpty (svL o.2)]
def emptyI : TIn := ⟨[], [], 0, 0⟩

/-- A line's end, from behind: what is ahead of a brace, the number, has it digits. -/
def refGo : List UInt8 → Int → Nat → Option (List UInt8 × Int × Bool)
  | [], _, _ => none
  | x :: xs, n, k => match x == 123 with
    | true => some (xs.reverse, n, decide (1 ≤ k))
    | false => match isDig x && decide (k < 10) with
      | true => refGo xs (n + 10 ^ k * ((x.toNat : Int) - 48)) (k + 1)
      | false => none
def litL (s : List UInt8) : Option (List UInt8 × Int) := match s.reverse with
  | x :: r => match x == 125 with
    | true => match refGo r 0 0 with
      | some (b, n, true) => some (b, n)
      | _ => none
    | false => none
  | [] => none
def lineS (ps : List (List UInt8)) (s : List UInt8) : TIn × List TOut := match litL s with
  | none => (emptyI, [(1, ps ++ [s])])
  | some (b, n) => match decide (n > 2000) || ps.length == 8 with
    | true => ((match n == 0 with | true => ⟨[], [], 4, 0⟩ | false => ⟨[], [], 3, n⟩), [(4, ps ++ [b])])
    | false => match n == 0 with
      | true => (⟨ps ++ [b, []], [], 0, 0⟩, [(2, [])])
      | false => (⟨ps ++ [b], [], 1, n⟩, [(2, [])])
def longS (i : TIn) (c : UInt8) : TIn × List TOut := match c == 10 with
  | true => (emptyI, [(3, [])])
  | false => (i, [])
def oneS (i : TIn) (c : UInt8) : TIn × List TOut :=
  if i.mode = 0 then
    (if i.text.length = 400 then longS ⟨[], [], 2, 0⟩ c
     else if c = 10 then lineS i.ps (cutSuf i.text 13)
     else (⟨i.ps, i.text ++ [c], i.mode, i.need⟩, []))
  else if i.mode = 1 then
    (if i.need - 1 = 0 then (⟨i.ps ++ [i.text ++ [c]], [], 0, 0⟩, []) else (⟨i.ps, i.text ++ [c], i.mode, i.need - 1⟩, []))
  else if i.mode = 2 then longS i c
  else if i.mode = 3 then (if i.need - 1 = 0 then (⟨[], [], 4, 0⟩, []) else (⟨i.ps, i.text, i.mode, i.need - 1⟩, []))
  else if c = 10 then (emptyI, []) else (i, [])
def feedS : TIn → List UInt8 → TIn × List TOut
  | i, [] => (i, [])
  | i, c :: r => ((feedS (oneS i c).1 r).1, (oneS i c).2 ++ (feedS (oneS i c).1 r).2)
theorem feedS_app : ∀ (a b : List UInt8) (i : TIn), feedS i (a ++ b) = ((feedS (feedS i a).1 b).1, (feedS i a).2 ++ (feedS (feedS i a).1 b).2)
  | [], b, i => by simp [feedS]
  | c :: a, b, i => by
    simp only [List.cons_append, feedS]
    rw [feedS_app a b]
    simp

/-- May a reader be? -/
def RightI (i : TIn) : Prop := i.ps.length ≤ 8 ∧ (∀ p ∈ i.ps, p.length ≤ 2000) ∧
  ((i.mode = 0 ∧ i.need = 0 ∧ i.text.length ≤ 400 ∧ i.ps.length % 2 = 0) ∨
   (i.mode = 1 ∧ 1 ≤ i.need ∧ i.need ≤ 2000 ∧ (i.text.length : Int) + i.need ≤ 2000 ∧ i.ps.length % 2 = 1) ∨
   ((i.mode = 2 ∨ i.mode = 4) ∧ i.need = 0 ∧ i.text = [] ∧ i.ps = []) ∨
   (i.mode = 3 ∧ 1 ≤ i.need ∧ i.need ≤ 10000000000 ∧ i.text = [] ∧ i.ps = []))
theorem right_empty : RightI emptyI := ⟨by simp [emptyI], by simp [emptyI], .inl ⟨rfl, rfl, by simp [emptyI], rfl⟩⟩

theorem pow10 {k : Nat} (h : k ≤ 10) : (10 : Int) ^ k ≤ 10000000000 := by
  have : (10 : Nat) ^ k ≤ 10 ^ 10 := Nat.pow_le_pow_right (by omega) h
  have h2 : ((10 ^ k : Nat) : Int) ≤ ((10 ^ 10 : Nat) : Int) := Int.ofNat_le.2 this
  simpa using h2
theorem pow10_pos (k : Nat) : (1 : Int) ≤ 10 ^ k := by
  have := Int.pow_pos (n := (10 : Int)) (m := k) (by omega)
  omega
theorem dig_range {x : UInt8} (h : isDig x = true) : 48 ≤ x.toNat ∧ x.toNat ≤ 57 := by simpa [isDig] using h
theorem step_range {n : Int} {k : Nat} {x : UInt8} (hx : isDig x = true) (h0 : 0 ≤ n) (h1 : n < 10 ^ k) : 0 ≤ n + 10 ^ k * ((x.toNat : Int) - 48) ∧ n + 10 ^ k * ((x.toNat : Int) - 48) < 10 ^ (k + 1) := by
  have hp := pow10_pos k
  obtain ⟨a, b⟩ := dig_range hx
  have e1 : 0 ≤ (10 : Int) ^ k * ((x.toNat : Int) - 48) := Int.mul_nonneg (by omega) (by omega)
  have e2 : (10 : Int) ^ k * ((x.toNat : Int) - 48) ≤ 10 ^ k * 9 := Int.mul_le_mul_of_nonneg_left (by omega) (by omega)
  rw [Int.pow_succ]
  omega
theorem refGo_range : ∀ (r : List UInt8) (n : Int) (k : Nat), k ≤ 10 → 0 ≤ n → n < 10 ^ k → ∀ b m ok, refGo r n k = some (b, m, ok) → 0 ≤ m ∧ m < 10000000000 ∧ b.length ≤ r.length
  | [], n, k, _, _, _, b, m, ok, h => by simp [refGo] at h
  | x :: xs, n, k, hk, h0, h1, b, m, ok, h => by
    unfold refGo at h
    split at h
    · simp at h
      obtain ⟨rfl, rfl, _⟩ := h
      have := pow10 hk
      refine ⟨h0, by omega, by simp⟩
    · split at h
      · rename_i hd
        simp only [Bool.and_eq_true, decide_eq_true_eq] at hd
        have hr := step_range hd.1 h0 h1
        obtain ⟨a, b2, c⟩ := refGo_range xs _ (k + 1) (by omega) hr.1 hr.2 b m ok h
        exact ⟨a, b2, by simp; omega⟩
      · cases h
theorem litL_range {s b : List UInt8} {n : Int} (h : litL s = some (b, n)) : 0 ≤ n ∧ n < 10000000000 ∧ b.length ≤ s.length := by
  unfold litL at h
  split at h
  · rename_i x r hr
    have hlen : s.length = r.length + 1 := by
      have := congrArg List.length hr
      simpa using this
    split at h
    · split at h
      · rename_i b' n' he
        simp at h
        obtain ⟨rfl, rfl⟩ := h
        obtain ⟨a, b, c⟩ := refGo_range r 0 0 (by omega) (by omega) (by decide) _ _ _ he
        exact ⟨a, b, by omega⟩
      · cases h
    · cases h
  · cases h
theorem right_line {ps : List (List UInt8)} {s : List UInt8} (h1 : ps.length ≤ 8) (h2 : ∀ p ∈ ps, p.length ≤ 2000) (h3 : s.length ≤ 400) (h4 : ps.length % 2 = 0) : RightI (lineS ps s).1 := by
  unfold lineS
  split
  · exact right_empty
  · rename_i b n hl
    obtain ⟨r1, r2, r3⟩ := litL_range hl
    split
    · split
      · exact ⟨by simp, by simp, .inr (.inr (.inl ⟨.inr rfl, rfl, rfl, rfl⟩))⟩
      · rename_i hn
        have hn : ¬ n = 0 := by simpa using hn
        exact ⟨by simp, by simp, .inr (.inr (.inr ⟨rfl, by show 1 ≤ n; omega, by show n ≤ _; omega, rfl, rfl⟩))⟩
    · rename_i ho
      simp only [Bool.or_eq_false_iff, decide_eq_false_iff_not, beq_eq_false_iff_ne] at ho
      split
      · refine ⟨by simp; omega, fun p hp => ?_, .inl ⟨rfl, rfl, by simp, by simp; omega⟩⟩
        simp at hp
        rcases hp with hp | rfl | rfl
        · exact h2 p hp
        · omega
        · simp
      · rename_i hn
        have hn : ¬ n = 0 := by simpa using hn
        refine ⟨by simp; omega, fun p hp => ?_, .inr (.inl ⟨rfl, by show 1 ≤ n; omega, by show n ≤ 2000; omega, by show ((([] : List UInt8).length : Nat) : Int) + n ≤ 2000; simp; omega, by simp; omega⟩)⟩
        simp at hp
        rcases hp with hp | rfl
        · exact h2 p hp
        · omega
theorem cutSuf_len (l : List UInt8) (c : UInt8) : (cutSuf l c).length ≤ l.length := by
  unfold cutSuf
  split <;> simp
theorem right_one {i : TIn} (h : RightI i) (c : UInt8) : RightI (oneS i c).1 := by
  obtain ⟨h1, h2, h⟩ := h
  unfold oneS longS
  rcases h with ⟨m, a, b, d⟩ | ⟨m, a, a2, b, d⟩ | ⟨m, a, b, d⟩ | ⟨m, a, a2, b, d⟩
  · rw [if_pos m]
    split
    · split
      · exact right_empty
      · exact ⟨by simp, by simp, .inr (.inr (.inl ⟨.inl rfl, rfl, rfl, rfl⟩))⟩
    · split
      · exact right_line h1 h2 (Nat.le_trans (cutSuf_len _ _) b) d
      · exact ⟨h1, h2, .inl ⟨m, a, by simp; omega, d⟩⟩
  · rw [if_neg (by omega), if_pos m]
    split
    · refine ⟨by simp; omega, fun p hp => ?_, .inl ⟨rfl, rfl, by simp, by simp; omega⟩⟩
      simp at hp
      rcases hp with hp | rfl
      · exact h2 p hp
      · simp; omega
    · exact ⟨h1, h2, .inr (.inl ⟨m, by simp; omega, by simp; omega, by simp; omega, d⟩)⟩
  · rw [if_neg (by omega), if_neg (by omega)]
    split
    · split
      · exact right_empty
      · exact ⟨h1, h2, .inr (.inr (.inl ⟨m, a, b, d⟩))⟩
    · rw [if_neg (by omega)]
      split
      · exact right_empty
      · exact ⟨h1, h2, .inr (.inr (.inl ⟨m, a, b, d⟩))⟩
  · rw [if_neg (by omega), if_neg (by omega), if_neg (by omega), if_pos m]
    split
    · exact ⟨by simp, by simp, .inr (.inr (.inl ⟨.inr rfl, rfl, rfl, rfl⟩))⟩
    · exact ⟨h1, h2, .inr (.inr (.inr ⟨m, by simp; omega, by simp; omega, b, d⟩))⟩
theorem right_feed : ∀ (l : List UInt8) {i : TIn}, RightI i → RightI (feedS i l).1
  | [], i, h => h
  | c :: l, i, h => right_feed l (right_one h c)
/-- What is told: its kind, and how many parts. -/
def GoodO (o : TOut) : Prop := 1 ≤ o.1 ∧ o.1 ≤ 4 ∧ ((o.1 = 1 ∨ o.1 = 4) ↔ o.2.length % 2 = 1) ∧ o.2.length ≤ 9
theorem good_one {i : TIn} (h : RightI i) (c : UInt8) : (oneS i c).2.length ≤ 1 ∧ ∀ o ∈ (oneS i c).2, GoodO o := by
  obtain ⟨h1, h2, h⟩ := h
  have hl : ∀ s, i.ps.length % 2 = 0 → (lineS i.ps s).2.length ≤ 1 ∧ ∀ o ∈ (lineS i.ps s).2, GoodO o := by
    intro s he
    unfold lineS
    split
    · exact ⟨by simp, fun o ho => by simp at ho; subst ho; exact ⟨by simp, by simp, by simp; omega, by simp; omega⟩⟩
    · split
      · exact ⟨by simp, fun o ho => by simp at ho; subst ho; exact ⟨by simp, by simp, by simp; omega, by simp; omega⟩⟩
      · split
        · exact ⟨by simp, fun o ho => by simp at ho; subst ho; exact ⟨by simp, by simp, by simp, by simp⟩⟩
        · exact ⟨by simp, fun o ho => by simp at ho; subst ho; exact ⟨by simp, by simp, by simp, by simp⟩⟩
  have hg : ∀ j : TIn, (longS j c).2.length ≤ 1 ∧ ∀ o ∈ (longS j c).2, GoodO o := by
    intro j
    unfold longS
    split
    · exact ⟨by simp, fun o ho => by simp at ho; subst ho; exact ⟨by simp, by simp, by simp, by simp⟩⟩
    · exact ⟨by simp, fun o ho => by simp at ho⟩
  have h0 : ∀ j : TIn, ((j, ([] : List TOut)) : TIn × List TOut).2.length ≤ 1 ∧ ∀ o ∈ ((j, ([] : List TOut)) : TIn × List TOut).2, GoodO o := fun j => ⟨by simp, fun o ho => by simp at ho⟩
  unfold oneS
  rcases h with ⟨m, a, b, d⟩ | ⟨m, a, a2, b, d⟩ | ⟨m, a, b, d⟩ | ⟨m, a, a2, b, d⟩
  · rw [if_pos m]
    split
    · exact hg _
    · split
      · exact hl _ d
      · exact h0 _
  · rw [if_neg (by omega), if_pos m]
    split <;> exact h0 _
  · rw [if_neg (by omega), if_neg (by omega)]
    split
    · exact hg _
    · rw [if_neg (by omega)]
      split <;> exact h0 _
  · rw [if_neg (by omega), if_neg (by omega), if_neg (by omega), if_pos m]
    split <;> exact h0 _
theorem good_feed : ∀ (l : List UInt8) {i : TIn}, RightI i → (feedS i l).2.length ≤ l.length ∧ ∀ o ∈ (feedS i l).2, GoodO o
  | [], i, h => ⟨by simp [feedS], fun o ho => by simp [feedS] at ho⟩
  | c :: l, i, h => by
    obtain ⟨a, b⟩ := good_one h c
    obtain ⟨d, e⟩ := good_feed l (right_one h c)
    simp only [feedS]
    refine ⟨by simp; omega, fun o ho => ?_⟩
    rcases List.mem_append.1 ho with ho | ho
    · exact b o ho
    · exact e o ho
end Go.Proofs.YtphbfkncimifoaaDoor
