import Derived.Test.YtckbjhmiopjlkaaDoorUNum
import Derived.Test.YtckbjhmiopjlkaaDoorUJoin
set_option linter.unusedVariables false
set_option linter.unusedSimpArgs false
set_option maxRecDepth 100000
namespace Go.Proofs.YtckbjhmiopjlkaaDoor
/- Numbers' texts: the library and the reference read one number, and what is printed is read. -/
open Go Go.Ab Go.RowKit

theorem snoc2 {α : Type} (l : List α) : l = [] ∨ ∃ a x, l = a ++ [x] := by
  induction l with
  | nil => exact Or.inl rfl
  | cons y t ih =>
    rcases ih with rfl | ⟨a, x, rfl⟩
    · exact Or.inr ⟨[], y, rfl⟩
    · exact Or.inr ⟨y :: a, x, rfl⟩
def dgB (c : UInt8) : Bool := decide (48 ≤ c.toNat) && decide (c.toNat ≤ 57)
theorem dgB_iff {c : UInt8} : dgB c = true ↔ 48 ≤ c.toNat ∧ c.toNat ≤ 57 := by unfold dgB; simp
/-- The reference's loop. -/
def goN : List UInt8 → Nat → Option Nat
  | [], n => some n
  | c :: r, n => match dgB c && decide (n ≤ 4294967296) with
    | true => goN r (n * 10 + (c.toNat - 48))
    | false => none
def rnum (l : List UInt8) : Int :=
  if l = [42] then 0 else if l = [] ∨ l.headD 0 = 48 then -1 else match goN l 0 with
    | none => -1
    | some n => if n > 4294967295 then -1 else (n : Int)
theorem goN_cons {c : UInt8} {r : List UInt8} {n m : Nat} (h : goN (c :: r) n = some m) : (48 ≤ c.toNat ∧ c.toNat ≤ 57) ∧ n ≤ 4294967296 ∧ goN r (n * 10 + (c.toNat - 48)) = some m := by
  unfold goN at h
  split at h
  · rename_i hb
    simp only [Bool.and_eq_true, decide_eq_true_eq] at hb
    exact ⟨dgB_iff.1 hb.1, hb.2, h⟩
  · cases h
theorem goN_step {c : UInt8} {r : List UInt8} {n : Nat} (h : 48 ≤ c.toNat ∧ c.toNat ≤ 57) (hn : n ≤ 4294967296) : goN (c :: r) n = goN r (n * 10 + (c.toNat - 48)) := by
  rw [goN, show (dgB c && decide (n ≤ 4294967296)) = true by rw [dgB_iff.2 h, decide_eq_true hn]; rfl]
theorem goN_le : ∀ (l : List UInt8) {n m : Nat}, goN l n = some m → n ≤ m
  | [], n, m, h => by cases h; exact Nat.le_refl _
  | c :: r, n, m, h => by
    obtain ⟨_, _, h⟩ := goN_cons h
    have := goN_le r h
    omega
theorem goN_dg : ∀ (l : List UInt8) {n m : Nat}, goN l n = some m → ∀ c ∈ l, 48 ≤ c.toNat ∧ c.toNat ≤ 57
  | [], n, m, h => by simp
  | c :: r, n, m, h => by
    obtain ⟨h1, _, h⟩ := goN_cons h
    intro d hd
    rcases List.mem_cons.1 hd with rfl | hd
    · exact h1
    · exact goN_dg r h d hd
theorem goN_app : ∀ (l k : List UInt8) (n : Nat), goN (l ++ k) n = (goN l n).bind (goN k)
  | [], k, n => rfl
  | c :: r, k, n => by
    rw [List.cons_append, goN, goN]
    split
    · exact goN_app r k _
    · rfl
def okV (l : List UInt8) : Option Nat := match Lib.parseUintM 4294967295 0 l with
  | .ok u => some u
  | _ => none
theorem pM : ∀ (l : List UInt8) (acc : Nat), acc ≤ 4294967295 → match Lib.parseUintM 4294967295 acc l with
    | .ok u => goN l acc = some u ∧ u ≤ 4294967295
    | _ => ∀ m, goN l acc = some m → 4294967295 < m
  | [], acc, h => ⟨rfl, h⟩
  | c :: r, acc, h => by
    unfold Lib.parseUintM
    by_cases hd : 48 ≤ c.toNat ∧ c.toNat ≤ 57
    · rw [if_pos hd, if_neg (by omega), goN_step hd (by omega)]
      by_cases hM : 4294967295 < acc * 10 + (c.toNat - 48)
      · rw [if_pos hM]
        intro m hm
        have := goN_le r hm
        omega
      · rw [if_neg hM]
        exact pM r _ (by omega)
    · rw [if_neg hd]
      intro m hm
      exact absurd (goN_cons hm).1 hd
theorem okV_some {l : List UInt8} {u : Nat} (h : okV l = some u) : goN l 0 = some u ∧ u ≤ 4294967295 := by
  have := pM l 0 (by omega)
  unfold okV at h
  split at h
  · rename_i v hv
    rw [hv] at this
    cases h
    exact this
  · cases h
theorem okV_none {l : List UInt8} (h : okV l = none) : ∀ m, goN l 0 = some m → 4294967295 < m := by
  have := pM l 0 (by omega)
  unfold okV at h
  revert this h
  cases Lib.parseUintM 4294967295 0 l with
  | ok u => intro h _; cases h
  | _ => intro _ h; exact h
theorem puV_okV {l : List UInt8} (h : l ≠ []) : (puV l).2 = (okV l).isSome ∧ ∀ u, okV l = some u → (puV l).1 = u := by
  unfold puV okV Lib.parseUintB
  rw [if_neg h]
  show (match Lib.parseUintM 4294967295 0 l with | .ok u => (u, true) | .range => (4294967295, false) | _ => (0, false)).2 = _ ∧ ∀ u, _ → (match Lib.parseUintM 4294967295 0 l with | .ok u => (u, true) | .range => (4294967295, false) | _ => (0, false)).1 = u
  cases Lib.parseUintM 4294967295 0 l <;> simp
theorem rnum_numV (l : List UInt8) : rnum l = if (numV l).2 = true then (numV l).1 else -1 := by
  unfold rnum numV
  by_cases h42 : l = [42]
  · rw [if_pos h42, if_pos h42]; rfl
  · rw [if_neg h42, if_neg h42]
    cases l with
    | nil => rfl
    | cons c r =>
      obtain ⟨p1, p2⟩ := puV_okV (l := c :: r) (by simp)
      by_cases h48 : c = 48
      · rw [if_pos (Or.inr (by simp [h48]))]
        simp [h48]
      · rw [if_neg (by simp [h48])]
        cases hv : okV (c :: r) with
        | some u =>
          obtain ⟨g1, g2⟩ := okV_some hv
          obtain ⟨d1, _, d2⟩ := goN_cons g1
          have d3 := goN_le r d2
          have hc : c.toNat ≠ 48 := fun e => h48 (UInt8.toNat_inj.1 e)
          have h43 : c ≠ 43 := by rintro rfl; simp at d1
          rw [p2 u hv, p1, hv, g1]
          simp only [Option.isSome_some, List.headD_cons]
          rw [if_neg (by omega)]
          exact (if_pos (by simp [h48, h43]; omega)).symm
        | none =>
          rw [p1, hv]
          simp only [Option.isSome_none, Bool.false_and, Bool.false_eq_true, if_false]
          cases hg : goN (c :: r) 0 with
          | none => rfl
          | some m => exact if_pos (okV_none hv m hg)

/-- An end's text. -/
def endV (n : Int) : List UInt8 := match decide (n = 0) with
  | true => [42]
  | false => Lib.itoa n
theorem dg_of {u : Nat} (h : u < 10) : (UInt8.ofNat (48 + u)).toNat = 48 + u := by simp; omega
theorem dec_goN : ∀ (u : Nat), u ≤ 4294967295 → goN (Lib.decDigits u) 0 = some u
  | u, h => by
    rw [Lib.decDigits]
    by_cases hu : u < 10
    · rw [dif_pos hu, goN_step (by rw [dg_of hu]; omega) (by omega), dg_of hu]
      show some _ = _
      congr 1
      omega
    · rw [dif_neg hu, goN_app, dec_goN (u / 10) (by omega)]
      simp only [Option.bind_some]
      rw [goN_step (by rw [dg_of (by omega)]; omega) (by omega), dg_of (by omega)]
      show some _ = _
      congr 1
      omega
termination_by u => u
theorem dec_ne (u : Nat) : Lib.decDigits u ≠ [] := by
  rw [Lib.decDigits]
  split <;> simp
theorem dec_head : ∀ (u : Nat), 1 ≤ u → (Lib.decDigits u).headD 0 ≠ 48
  | u, h => by
    rw [Lib.decDigits]
    by_cases hu : u < 10
    · rw [dif_pos hu]
      intro e
      have e : UInt8.ofNat (48 + u) = 48 := e
      have := congrArg UInt8.toNat e
      rw [dg_of hu] at this
      simp at this
      omega
    · rw [dif_neg hu]
      have ih := dec_head (u / 10) (by omega)
      cases hd : Lib.decDigits (u / 10) with
      | nil => exact absurd hd (dec_ne _)
      | cons a l => rw [hd] at ih; exact ih
termination_by u => u
theorem dec_of : ∀ (k : Nat) (p : List UInt8) (m : Nat), p.length = k → goN p 0 = some m → p ≠ [] → p.headD 0 ≠ 48 → Lib.decDigits m = p
  | 0, p, m, hk, _, hn, _ => absurd (List.length_eq_zero_iff.1 hk) hn
  | k + 1, p, m, hk, hg, hn, hh => by
    rcases snoc2 p with rfl | ⟨q, c, rfl⟩
    · exact absurd rfl hn
    · rw [goN_app] at hg
      cases hq : goN q 0 with
      | none => rw [hq] at hg; cases hg
      | some v =>
        rw [hq] at hg
        obtain ⟨h1, h2, h3⟩ := goN_cons (show goN [c] v = some m from hg)
        have h3 : v * 10 + (c.toNat - 48) = m := Option.some.inj h3
        have hc : UInt8.ofNat (48 + (c.toNat - 48)) = c := by
          rw [show 48 + (c.toNat - 48) = c.toNat by omega]; simp
        cases q with
        | nil =>
          have : v = 0 := by cases hq; rfl
          subst this
          rw [Lib.decDigits, dif_pos (by omega), ← h3, Nat.zero_mul, Nat.zero_add, hc]
          rfl
        | cons a q =>
          have hh : a ≠ 48 := hh
          have ih := dec_of k (a :: q) v (by simp at hk ⊢; omega) hq (by simp) hh
          obtain ⟨d1, _, d2⟩ := goN_cons hq
          have d3 := goN_le q d2
          have ha : a.toNat ≠ 48 := fun e => hh (UInt8.toNat_inj.1 e)
          rw [Lib.decDigits, dif_neg (by omega), show m / 10 = v by omega, ih, show m % 10 = c.toNat - 48 by omega, hc]
theorem endV_pos {n : Int} (h : 0 < n) : endV n = Lib.decDigits n.toNat := by
  unfold endV Lib.itoa
  rw [decide_eq_false (by omega), if_neg (by omega)]
theorem endV_mem {n : Int} (h0 : 0 ≤ n) (h1 : n ≤ 4294967295) : ∀ c ∈ endV n, c = 42 ∨ (48 ≤ c.toNat ∧ c.toNat ≤ 57) := by
  by_cases h : n = 0
  · subst h
    intro c hc
    exact Or.inl (by simpa [endV] using hc)
  · rw [endV_pos (by omega)]
    intro c hc
    exact Or.inr (goN_dg _ (dec_goN n.toNat (by omega)) c hc)
theorem endV_no {n : Int} (h0 : 0 ≤ n) (h1 : n ≤ 4294967295) : (44 : UInt8) ∉ endV n ∧ (58 : UInt8) ∉ endV n := by
  constructor
  · intro h
    rcases endV_mem h0 h1 _ h with h | h
    · cases h
    · simp at h
  · intro h
    rcases endV_mem h0 h1 _ h with h | h
    · cases h
    · simp at h
theorem num_end {n : Int} (h0 : 0 ≤ n) (h1 : n ≤ 4294967295) : numV (endV n) = (n, true) := by
  by_cases h : n = 0
  · subst h; rfl
  · have hr : rnum (endV n) = n := by
      rw [endV_pos (by omega)]
      have hg := dec_goN n.toNat (by omega)
      have hd := goN_dg _ hg
      have hh := dec_head n.toNat (by omega)
      have hn := dec_ne n.toNat
      unfold rnum
      rw [if_neg (fun e => by have := hd 42 (by rw [e]; simp); simp at this), if_neg (fun e => e.elim hn hh), hg]
      show (if n.toNat > 4294967295 then (-1 : Int) else (n.toNat : Int)) = n
      rw [if_neg (by omega)]
      omega
    rw [rnum_numV] at hr
    cases hb : (numV (endV n)).2 with
    | false => rw [hb] at hr; simp at hr; omega
    | true =>
      rw [hb] at hr
      simp at hr
      exact Prod.ext hr hb
theorem end_num {p : List UInt8} (h : (numV p).2 = true) : endV (numV p).1 = p ∧ 0 ≤ (numV p).1 ∧ (numV p).1 ≤ 4294967295 := by
  have hr := rnum_numV p
  rw [if_pos h] at hr
  by_cases h42 : p = [42]
  · subst h42; exact ⟨rfl, by decide, by decide⟩
  · unfold rnum at hr
    rw [if_neg h42] at hr
    by_cases hz : p = [] ∨ p.headD 0 = 48
    · exfalso
      unfold numV at h
      rw [if_neg h42] at h
      rcases hz with rfl | hz
      · cases h
      · simp at h hz
        exact h.2.2.1 hz
    · rw [if_neg hz] at hr
      have hne : p ≠ [] := fun e => hz (Or.inl e)
      have hhd : p.headD 0 ≠ 48 := fun e => hz (Or.inr e)
      have hok : (okV p).isSome = true := by
        rw [← (puV_okV hne).1]
        unfold numV at h
        rw [if_neg h42] at h
        simp only [Bool.and_eq_true] at h
        exact h.1
      obtain ⟨u, hu⟩ := Option.isSome_iff_exists.1 hok
      obtain ⟨g1, g2⟩ := okV_some hu
      rw [g1] at hr
      have hr : (u : Int) = (numV p).1 := by
        rw [← hr]
        exact (if_neg (by omega)).symm
      have hd := dec_of p.length p u rfl g1 hne hhd
      have hpos : 0 < u := by
        cases p with
        | nil => exact absurd rfl hne
        | cons c r =>
          obtain ⟨d1, _, d2⟩ := goN_cons g1
          have d3 := goN_le r d2
          have hc : c.toNat ≠ 48 := fun e => hhd (UInt8.toNat_inj.1 e)
          omega
      rw [← hr, endV_pos (by omega)]
      exact ⟨by rw [show ((u : Int)).toNat = u by omega]; exact hd, by omega, by omega⟩
end Go.Proofs.YtckbjhmiopjlkaaDoor
