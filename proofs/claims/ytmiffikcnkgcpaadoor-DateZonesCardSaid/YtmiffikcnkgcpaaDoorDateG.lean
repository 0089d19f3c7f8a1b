import Derived.Test.YtmiffikcnkgcpaaDoorDateF
set_option linter.unusedVariables false
set_option linter.unusedSimpArgs false
set_option maxRecDepth 100000
namespace Go.Proofs.YtmiffikcnkgcpaaDoor
/- What is printed is parsed as it was: the plain law. -/
open Go Go.Ab

theorem digU_nat (n : Int) : ((digU n).toNat : Int) = 48 + n % 10 := by
  unfold digU
  have : (48 + n % 10).toNat < 256 := by omega
  rw [UInt8.toNat_ofNat_of_lt' (by simpa using this)]
  omega
theorem digU_ne (n : Int) (c : UInt8) (h : c.toNat < 48 ∨ 57 < c.toNat) : digU n ≠ c := by
  intro e
  have := digU_nat n
  rw [e] at this
  omega
theorem digU_dig (n : Int) : isDig (digU n) = true := by
  have := digU_nat n
  simp only [isDig, Bool.and_eq_true, decide_eq_true_eq]
  omega
theorem numB_two {n : Int} (h0 : 0 ≤ n) (h : n ≤ 99) {hi : Int} (h2 : 2 ≤ hi) {lo : Int} (hl : lo ≤ 2) : numB (twoL n) lo hi = (n, true) := by
  unfold numB twoL
  rw [if_neg (by simp [digU_dig]; omega)]
  simp only [numGo, digU_nat]
  refine congrArg (·, true) ?_
  omega
theorem numB_one {n : Int} (h0 : 0 ≤ n) (h : n ≤ 9) : numB [digU n] 1 2 = (n, true) := by
  unfold numB
  rw [if_neg (by simp [digU_dig])]
  simp only [numGo, digU_nat]
  refine congrArg (·, true) ?_
  omega
theorem numB_four {n : Int} (h0 : 0 ≤ n) (h : n ≤ 9999) : numB (twoL (n / 100) ++ twoL (n % 100)) 4 4 = (n, true) := by
  unfold numB twoL
  rw [if_neg (by simp [digU_dig])]
  simp only [List.cons_append, List.nil_append, numGo, digU_nat]
  refine congrArg (·, true) ?_
  omega

theorem calFrom_at {mon : List UInt8} {y d j : Int} (h3 : mon.length = 3) (hm : ∀ i : Int, 0 ≤ i → i < 12 → eqFold (nameAt i) mon = decide (i = j)) (hj : j < 12) (ht : thereI y (j + 1) d = true) :
    ∀ (k : Nat) (i : Int), 0 ≤ i → i ≤ j → (12 - i).toNat = k → calFrom true mon y d k i = some (yday y + mday y (j + 1) + d - 1)
  | 0, i, h0, hij, hk => by omega
  | k + 1, i, h0, hij, hk => by
    unfold calFrom
    rw [h3, hm i h0 (by omega)]
    by_cases e : i = j
    · subst e
      simp [ht]
    · rw [decide_eq_false e]
      simp only [Bool.and_false, Bool.false_and]
      exact calFrom_at h3 hm hj ht k (i + 1) (by omega) (by omega) (by omega)

theorem dom_ok {d : Int} (h1 : 1 ≤ d) (h2 : d ≤ 31) : ∃ a b, domL d = [a, b] ∧ a ≠ 45 ∧ b ≠ 45 ∧ numB (trimPre [32] [a, b]) 1 2 = (d, true) ∧ asc a = true ∧ asc b = true := by
  have ha : ∀ n, asc (digU n) = true := by
    intro n
    have := digU_nat n
    simp only [asc, decide_eq_true_eq]
    omega
  unfold domL
  by_cases h : d < 10
  · rw [if_pos h]
    refine ⟨32, digU d, rfl, by decide, digU_ne d 45 (by decide), ?_, by decide, ha d⟩
    rw [show trimPre [32] [32, digU d] = [digU d] from rfl]
    exact numB_one (by omega) (by omega)
  · rw [if_neg h]
    refine ⟨digU (d / 10), digU d, rfl, digU_ne _ 45 (by decide), digU_ne _ 45 (by decide), ?_, ha _, ha _⟩
    have hne : ([32] : List UInt8).isPrefixOf [digU (d / 10), digU d] = false := by
      simp only [List.isPrefixOf, Bool.and_true]
      exact beq_eq_false_iff_ne.2 (Ne.symm (digU_ne _ 32 (by decide)))
    unfold trimPre
    rw [hne, if_neg (by decide)]
    exact numB_two (by omega) (by omega) (by decide) (by decide)

theorem clock_ok {h i s : Int} (h0 : 0 ≤ h) (h1 : h ≤ 23) (i0 : 0 ≤ i) (i1 : i ≤ 59) (s0 : 0 ≤ s) (s1 : s ≤ 59) :
    clockB (twoL h ++ 58 :: (twoL i ++ 58 :: twoL s)) = (h * 3600 + i * 60 + s, true) := by
  have hn : ∀ n, (58 : UInt8) ∉ twoL n := by
    intro n hm
    simp only [twoL, List.mem_cons, List.not_mem_nil, or_false] at hm
    rcases hm with e | e
    · exact digU_ne _ 58 (by decide) e.symm
    · exact digU_ne _ 58 (by decide) e.symm
  unfold clockB
  rw [splitL_at _ _ (hn h), splitL_at _ _ (hn i), splitL_no _ (hn s), if_pos (show [twoL h, twoL i, twoL s].length = 3 from rfl)]
  have e : clockGo [twoL h, twoL i, twoL s] 0 0 = (h * 3600 + i * 60 + s, true) := by
    simp only [clockGo]
    rw [numB_two h0 (by omega) (by decide) (by decide), numB_two i0 (by omega) (by decide) (by decide), numB_two s0 (by omega) (by decide) (by decide)]
    simp only [Bool.not_true, Bool.false_or]
    rw [decide_eq_false (by omega), decide_eq_false (p := h > 23) (by omega)]
    simp only [Bool.and_false, Bool.or_false]
    rw [decide_eq_false (p := i > 59) (by omega)]
    simp only [show ((0 : Int) + 1 == 0) = false from rfl, Bool.false_and, Bool.or_false]
    rw [decide_eq_false (p := s > 59) (by omega)]
    simp only [show ((0 : Int) + 1 + 1 == 0) = false from rfl, Bool.false_and, Bool.or_false]
    refine congrArg (·, true) ?_
    omega
  rw [e]

theorem parse_form {y m d h i s z : Int} {n0 n1 n2 z0 z1 z2 z3 z4 : UInt8} (hy0 : 0 ≤ y) (hy : y ≤ 9999) (m1 : 1 ≤ m) (m2 : m ≤ 12) (ht : thereI y m d = true)
    (hm : ∀ i : Int, 0 ≤ i → i < 12 → eqFold (nameAt i) [n0, n1, n2] = decide (i = m - 1)) (hn0 : n0 ≠ 45) (hn1 : n1 ≠ 45) (hn2 : n2 ≠ 45)
    (h0 : 0 ≤ h) (h1 : h ≤ 23) (i0 : 0 ≤ i) (i1 : i ≤ 59) (s0 : 0 ≤ s) (s1 : s ≤ 59) (hz : zoneB [z0, z1, z2, z3, z4] = (z, true)) :
    parseB (domL d ++ 45 :: ([n0, n1, n2] ++ 45 :: (twoL (y / 100) ++ twoL (y % 100))) ++ 32 :: (twoL h ++ 58 :: (twoL i ++ 58 :: twoL s)) ++ 32 :: [z0, z1, z2, z3, z4])
      = if (yday y + mday y m + d - 1) * 86400 + (h * 3600 + i * 60 + s) - z < 0 ∨ (yday y + mday y m + d - 1) * 86400 + (h * 3600 + i * 60 + s) - z > 253402300799 then (0, 15)
        else ((yday y + mday y m + d - 1) * 86400 + (h * 3600 + i * 60 + s) - z, 0) := by
  have hd := there_day ht
  obtain ⟨a, b, hdom, ha, hb, hnum, _, _⟩ := dom_ok (d := d) (by omega) (by omega)
  rw [hdom]
  unfold parseB
  rw [if_neg (by exact fun h => h.elim (· rfl) fun h => h.elim (· rfl) (· rfl))]
  have e11 : List.take 11 ([a, b] ++ 45 :: ([n0, n1, n2] ++ 45 :: (twoL (y / 100) ++ twoL (y % 100))) ++ 32 :: (twoL h ++ 58 :: (twoL i ++ 58 :: twoL s)) ++ 32 :: [z0, z1, z2, z3, z4])
      = [a, b] ++ 45 :: ([n0, n1, n2] ++ 45 :: (twoL (y / 100) ++ twoL (y % 100))) := rfl
  have e20 : List.drop 12 (List.take 20 ([a, b] ++ 45 :: ([n0, n1, n2] ++ 45 :: (twoL (y / 100) ++ twoL (y % 100))) ++ 32 :: (twoL h ++ 58 :: (twoL i ++ 58 :: twoL s)) ++ 32 :: [z0, z1, z2, z3, z4]))
      = twoL h ++ 58 :: (twoL i ++ 58 :: twoL s) := rfl
  have e21 : List.drop 21 ([a, b] ++ 45 :: ([n0, n1, n2] ++ 45 :: (twoL (y / 100) ++ twoL (y % 100))) ++ 32 :: (twoL h ++ 58 :: (twoL i ++ 58 :: twoL s)) ++ 32 :: [z0, z1, z2, z3, z4])
      = [z0, z1, z2, z3, z4] := rfl
  have hc : calB (trimPre [32] [a, b]) [n0, n1, n2] (twoL (y / 100) ++ twoL (y % 100)) = (yday y + mday y m + d - 1, true) := by
    unfold calB
    rw [hnum, numB_four hy0 hy]
    have := calFrom_at (mon := [n0, n1, n2]) (y := y) (d := d) (j := m - 1) rfl hm (by omega) (by rw [show m - 1 + 1 = m by omega]; exact ht) 12 0 (by decide) (by omega) rfl
    simp only [Bool.and_true] at this ⊢
    rw [this, show m - 1 + 1 = m by omega]
  rw [e11, e20, e21, splitL_at _ _ (by simp [Ne.symm ha, Ne.symm hb]), splitL_at _ _ (by simp [Ne.symm hn0, Ne.symm hn1, Ne.symm hn2]), splitL_no _ (by
    simp only [twoL, List.cons_append, List.nil_append, List.mem_cons, List.not_mem_nil, or_false, not_or]
    exact ⟨Ne.symm (digU_ne _ 45 (by decide)), Ne.symm (digU_ne _ 45 (by decide)), Ne.symm (digU_ne _ 45 (by decide)), Ne.symm (digU_ne _ 45 (by decide))⟩)]
  simp only []
  rw [if_neg (by simp), hc, clock_ok h0 h1 i0 i1 s0 s1, hz, if_neg (by simp)]

theorem names_tell (i j : Int) (h0 : 0 ≤ i) (h1 : i < 12) (j0 : 0 ≤ j) (j1 : j < 12) : eqFold (nameAt i) (nameAt j) = decide (i = j) := by
  have all : ∀ a : Fin 12, ∀ b : Fin 12, eqFold (nameAt (a.val : Int)) (nameAt (b.val : Int)) = decide ((a.val : Int) = (b.val : Int)) := by decide +kernel
  have := all ⟨i.toNat, by omega⟩ ⟨j.toNat, by omega⟩
  simp only [Int.toNat_of_nonneg h0, Int.toNat_of_nonneg j0] at this
  exact this
theorem name_form {j : Int} (j0 : 0 ≤ j) (j1 : j < 12) : ∃ a b c, nameAt j = [a, b, c] ∧ a ≠ 45 ∧ b ≠ 45 ∧ c ≠ 45 ∧ asc a = true ∧ asc b = true ∧ asc c = true := by
  have : j = 0 ∨ j = 1 ∨ j = 2 ∨ j = 3 ∨ j = 4 ∨ j = 5 ∨ j = 6 ∨ j = 7 ∨ j = 8 ∨ j = 9 ∨ j = 10 ∨ j = 11 := by omega
  rcases this with rfl | rfl | rfl | rfl | rfl | rfl | rfl | rfl | rfl | rfl | rfl | rfl <;> exact ⟨_, _, _, rfl, by decide, by decide, by decide, by decide, by decide, by decide⟩
end Go.Proofs.YtmiffikcnkgcpaaDoor
