import Derived.Test.YtckbjhmiopjlkaaDoorUNumLaw
set_option linter.unusedVariables false
set_option linter.unusedSimpArgs false
set_option maxRecDepth 100000
namespace Go.Proofs.YtckbjhmiopjlkaaDoor
/- Sets' texts: printed and read; the reference's way of reading. -/
open Go Go.Ab Go.RowKit

def partV (r : Int × Int) : List UInt8 := match decide (r.2 = r.1) with
  | true => endV r.1
  | false => endV r.1 ++ 58 :: endV r.2
def printL (l : List (Int × Int)) : List UInt8 := Lib.join (l.map partV) [44]
def goodR (r : Int × Int) : Prop := (0 ≤ r.1 ∧ r.1 ≤ 4294967295) ∧ 0 ≤ r.2 ∧ r.2 ≤ 4294967295
def mayR (r : Int × Int) : Bool := (decide (0 ≤ r.1) && decide (r.1 ≤ 4294967295)) && (decide (0 ≤ r.2) && decide (r.2 ≤ 4294967295))
theorem mayR_iff {r : Int × Int} : mayR r = true ↔ goodR r := by unfold mayR goodR; simp
def rightV (l : List (Int × Int)) : Bool := decide (1 ≤ l.length) && (decide (l.length ≤ 60) && l.all mayR)
theorem rightV_iff {l : List (Int × Int)} : rightV l = true ↔ 1 ≤ l.length ∧ l.length ≤ 60 ∧ ∀ r ∈ l, goodR r := by
  unfold rightV
  simp only [Bool.and_eq_true, decide_eq_true_eq, List.all_eq_true]
  constructor
  · rintro ⟨a, b, c⟩; exact ⟨a, b, fun r hr => mayR_iff.1 (c r hr)⟩
  · rintro ⟨a, b, c⟩; exact ⟨a, b, fun r hr => mayR_iff.2 (c r hr)⟩

theorem splitL_cases (c : UInt8) (p : List UInt8) : (splitL c p = [p] ∧ c ∉ p) ∨ ∃ x y, p = x ++ c :: y ∧ c ∉ x ∧ splitL c p = x :: splitL c y := by
  by_cases h : c ∈ p
  · obtain ⟨a, b, rfl, ha⟩ := mem_split h
    exact Or.inr ⟨a, b, rfl, ha, splitL_at c b ha⟩
  · exact Or.inl ⟨splitL_no c h, h⟩
theorem cutAt_no {c : UInt8} {p : List UInt8} (h : c ∉ p) : cutAt c p = (p, [], false) := by
  unfold cutAt
  rw [splitL_no c h]
theorem cutAt_at {c : UInt8} {x : List UInt8} (y : List UInt8) (h : c ∉ x) : cutAt c (x ++ c :: y) = (x, y, true) := by
  unfold cutAt
  rw [splitL_at c y h]
  cases hs : splitL c y with
  | nil => exact absurd hs (splitL_ne c y)
  | cons a b =>
    show (x, (x ++ c :: y).drop (x.length + 1), true) = _
    rw [show (x ++ c :: y).drop (x.length + 1) = y by simp]
theorem step_part {r : Int × Int} (h : goodR r) : stepP numV (partV r) = some r := by
  obtain ⟨⟨h1, h2⟩, h3, h4⟩ := h
  obtain ⟨a, b⟩ := r
  simp only at h1 h2 h3 h4
  unfold stepP partV
  simp only
  by_cases e : b = a
  · subst e
    rw [decide_eq_true rfl, cutAt_no (endV_no h1 h2).2]
    simp only [Bool.false_eq_true, if_false, num_end h1 h2, Bool.not_true, Bool.false_and, Bool.or_self]
  · rw [decide_eq_false e, cutAt_at _ (endV_no h1 h2).2]
    simp only [if_true, num_end h1 h2, num_end h3 h4, Bool.not_true, Bool.true_and, Bool.false_or]
    rw [if_neg (by simp; omega)]
theorem part_step {p : List UInt8} {r : Int × Int} (h : stepP numV p = some r) : partV r = p ∧ goodR r := by
  unfold stepP at h
  rcases splitL_cases 58 p with ⟨_, hp⟩ | ⟨x, y, rfl, hx, _⟩
  · rw [cutAt_no hp] at h
    simp only [Bool.false_eq_true, if_false, Bool.false_and, Bool.or_false, Bool.or_self] at h
    cases hb : (numV p).2 with
    | false => rw [hb] at h; simp at h
    | true =>
      rw [hb] at h
      simp at h
      obtain ⟨e1, e2, e3⟩ := end_num hb
      subst h
      exact ⟨by unfold partV; rw [decide_eq_true rfl]; exact e1, ⟨e2, e3⟩, e2, e3⟩
  · rw [cutAt_at y hx] at h
    simp only [if_true, Bool.true_and] at h
    cases hb : (numV x).2 with
    | false => rw [hb] at h; simp at h
    | true =>
      cases hc : (numV y).2 with
      | false => rw [hb, hc] at h; simp at h
      | true =>
        rw [hb, hc] at h
        obtain ⟨e1, e2, e3⟩ := end_num hb
        obtain ⟨f1, f2, f3⟩ := end_num hc
        by_cases e : (numV x).1 = (numV y).1
        · simp [e] at h
        · simp [e] at h
          subst h
          refine ⟨?_, ⟨e2, e3⟩, f2, f3⟩
          unfold partV
          rw [decide_eq_false (fun h => e h.symm)]
          show endV (numV x).1 ++ 58 :: endV (numV y).1 = _
          rw [e1, f1]
theorem goP_some : ∀ (ps : List (List UInt8)) (acc out : List (Int × Int)), goP numV ps acc = some out → ∃ rs, out = acc ++ rs ∧ rs.map partV = ps ∧ ∀ r ∈ rs, goodR r
  | [], acc, out, h => by cases h; exact ⟨[], by simp, rfl, by simp⟩
  | p :: ps, acc, out, h => by
    unfold goP at h
    split at h
    · cases h
    · rename_i x hx
      obtain ⟨h1, h2⟩ := part_step hx
      obtain ⟨rs, rfl, h3, h4⟩ := goP_some ps _ _ h
      refine ⟨x :: rs, by simp, by rw [List.map_cons, h1, h3], ?_⟩
      intro r hr
      rcases List.mem_cons.1 hr with rfl | hr
      · exact h2
      · exact h4 r hr
theorem goP_parts : ∀ (l acc : List (Int × Int)), (∀ r ∈ l, goodR r) → goP numV (l.map partV) acc = some (acc ++ l)
  | [], acc, _ => by simp [goP]
  | r :: l, acc, h => by
    rw [List.map_cons, goP, step_part (h r (by simp))]
    show goP numV (l.map partV) (acc ++ [r]) = _
    rw [goP_parts l _ fun q hq => h q (by simp [hq])]
    simp
theorem join_cons (x y : List UInt8) (r : List (List UInt8)) : Lib.join (x :: y :: r) [44] = x ++ 44 :: Lib.join (y :: r) [44] := by
  simp [Lib.join, List.intercalate]
theorem split_join : ∀ (ps : List (List UInt8)), ps ≠ [] → (∀ p ∈ ps, (44 : UInt8) ∉ p) → splitL 44 (Lib.join ps [44]) = ps
  | [], h, _ => absurd rfl h
  | [x], _, h => by rw [Lib.join_one]; exact splitL_no 44 (h x (by simp))
  | x :: y :: r, _, h => by
    rw [join_cons, splitL_at 44 _ (h x (by simp)), split_join (y :: r) (by simp) fun p hp => h p (by simp [hp])]
theorem join_split (s : List UInt8) : Lib.join (splitL 44 s) [44] = s := by
  have := splitL_join 44 s
  simpa [Lib.join, List.intercalate] using this
theorem part_no {r : Int × Int} (h : goodR r) : (44 : UInt8) ∉ partV r := by
  obtain ⟨⟨h1, h2⟩, h3, h4⟩ := h
  unfold partV
  split
  · exact (endV_no h1 h2).1
  · intro hm
    rcases List.mem_append.1 hm with hm | hm
    · exact (endV_no h1 h2).1 hm
    · rcases List.mem_cons.1 hm with hm | hm
      · cases hm
      · exact (endV_no h3 h4).1 hm
theorem dec_len : ∀ (k u : Nat), u < 10 ^ (k + 1) → (Lib.decDigits u).length ≤ k + 1
  | k, u, h => by
    rw [Lib.decDigits]
    by_cases hu : u < 10
    · rw [dif_pos hu]; simp
    · rw [dif_neg hu]
      cases k with
      | zero => exact absurd (by simpa using h) hu
      | succ k =>
        have := dec_len k (u / 10) (by rw [Nat.pow_succ] at h; omega)
        simp
        omega
theorem endV_len {n : Int} (h0 : 0 ≤ n) (h1 : n ≤ 4294967295) : (endV n).length ≤ 10 := by
  by_cases h : n = 0
  · subst h; decide
  · rw [endV_pos (by omega)]
    exact dec_len 9 n.toNat (by omega)
theorem part_len {r : Int × Int} (h : goodR r) : (partV r).length ≤ 21 := by
  obtain ⟨⟨h1, h2⟩, h3, h4⟩ := h
  have a := endV_len h1 h2
  have b := endV_len h3 h4
  unfold partV
  split
  · omega
  · simp; omega
theorem join_len : ∀ (ps : List (List UInt8)), (∀ p ∈ ps, p.length ≤ 21) → (Lib.join ps [44]).length ≤ 22 * ps.length
  | [], _ => by simp [Lib.join_nil]
  | [x], h => by rw [Lib.join_one]; have := h x (by simp); simp; omega
  | x :: y :: r, h => by
    rw [join_cons]
    have h1 := h x (by simp)
    have h2 := join_len (y :: r) fun p hp => h p (by simp [hp])
    simp only [List.length_append, List.length_cons] at h2 ⊢
    omega
theorem print_len {l : List (Int × Int)} (h : ∀ r ∈ l, goodR r) : (printL l).length ≤ 22 * l.length := by
  have := join_len (l.map partV) (fun p hp => by
    obtain ⟨r, hr, rfl⟩ := List.mem_map.1 hp
    exact part_len (h r hr))
  simpa [printL] using this
/-- What is printed is read as it was. -/
theorem parse_print {l : List (Int × Int)} (h : rightV l = true) : parseV numV (printL l) = .tup [.lst 2 false (rowsOf l), iv 0] := by
  obtain ⟨h1, h2, h3⟩ := rightV_iff.1 h
  have hlen := print_len h3
  have hne : l.map partV ≠ [] := by
    cases l with
    | nil => simp at h1
    | cons => simp
  unfold parseV
  rw [if_neg (by omega), show splitL 44 (printL l) = l.map partV from split_join _ hne (fun p hp => by
    obtain ⟨r, hr, rfl⟩ := List.mem_map.1 hp
    exact part_no (h3 r hr)), goP_parts l [] h3]
  simp only [List.nil_append]
  rw [if_neg (by omega)]
/-- What is read: nothing, or a set with just this text. -/
theorem parse_cases (s : List UInt8) : (∃ e : Int, e ≠ 0 ∧ parseV numV s = .tup [.lst 2 true [], iv e]) ∨ ∃ l, parseV numV s = .tup [.lst 2 false (rowsOf l), iv 0] ∧ rightV l = true ∧ printL l = s := by
  unfold parseV
  split
  · exact Or.inl ⟨4, by decide, rfl⟩
  · split
    · exact Or.inl ⟨3, by decide, rfl⟩
    · rename_i acc hacc
      split
      · exact Or.inl ⟨4, by decide, rfl⟩
      · rename_i hl
        obtain ⟨rs, e, h1, h2⟩ := goP_some _ _ _ hacc
        rw [List.nil_append] at e
        subst e
        refine Or.inr ⟨acc, rfl, rightV_iff.2 ⟨?_, by omega, h2⟩, ?_⟩
        · have : (acc.map partV).length = (splitL 44 s).length := by rw [h1]
          rw [List.length_map, splitL_length] at this
          omega
        · unfold printL
          rw [h1]
          exact join_split s

/-- The reference's reading of a part. -/
def rstep (p : List UInt8) : Option (Int × Int) :=
  if (splitL 58 p).length > 2 then none else
  let a := rnum ((splitL 58 p).getD 0 [])
  let b := rnum ((splitL 58 p).getD ((splitL 58 p).length - 1) [])
  if a < 0 ∨ b < 0 ∨ ((splitL 58 p).length = 2 ∧ a = b) then none else some (a, b)
theorem rnum_ok {p : List UInt8} (h : (numV p).2 = true) : rnum p = (numV p).1 ∧ 0 ≤ (numV p).1 := by
  rw [rnum_numV, if_pos h]
  exact ⟨rfl, (end_num h).2.1⟩
theorem rnum_no {p : List UInt8} (h : (numV p).2 = false) : rnum p = -1 := by
  rw [rnum_numV, if_neg (by rw [h]; simp)]
theorem num_colon {p : List UInt8} (h : (58 : UInt8) ∈ p) : (numV p).2 = false := by
  cases hb : (numV p).2 with
  | false => rfl
  | true =>
    obtain ⟨e1, e2, e3⟩ := end_num hb
    rw [← e1] at h
    exact absurd h (endV_no e2 e3).2
theorem rstep_eq (p : List UInt8) : rstep p = stepP numV p := by
  unfold rstep stepP
  rcases splitL_cases 58 p with ⟨hs, hp⟩ | ⟨x, y, rfl, hx, hs⟩
  · rw [hs, cutAt_no hp]
    simp only [List.length_singleton, Nat.sub_self, List.getD_cons_zero, Bool.false_eq_true, if_false, Bool.false_and, Bool.or_false, Bool.or_self]
    rw [if_neg (by omega)]
    cases hb : (numV p).2 with
    | false =>
      rw [rnum_no hb]
      rfl
    | true =>
      obtain ⟨e1, e2⟩ := rnum_ok hb
      rw [e1, if_neg (by omega)]
      rfl
  · rw [hs, cutAt_at y hx]
    simp only [if_true, Bool.true_and]
    rcases splitL_cases 58 y with ⟨hs2, hy⟩ | ⟨y1, y2, rfl, _, hs2⟩
    · rw [hs2]
      simp only [List.length_cons, List.length_nil, Nat.zero_add, Nat.reduceAdd, Nat.reduceSub, List.getD_cons_zero, List.getD_cons_succ, true_and]
      rw [if_neg (by omega)]
      cases hb : (numV x).2 with
      | false => rw [rnum_no hb]; rfl
      | true =>
        obtain ⟨e1, e2⟩ := rnum_ok hb
        rw [e1]
        cases hc : (numV y).2 with
        | false => rw [rnum_no hc, if_pos (by omega)]; rfl
        | true =>
          obtain ⟨f1, f2⟩ := rnum_ok hc
          rw [f1]
          by_cases e : (numV x).1 = (numV y).1
          · rw [if_pos (by omega)]
            simp [e]
          · rw [if_neg (by omega)]
            simp [e]
    · rw [hs2]
      have hne := splitL_ne 58 y2
      have hlen : 0 < (splitL 58 y2).length := List.length_pos_iff.2 hne
      rw [if_pos (by simp; omega), num_colon (p := y1 ++ 58 :: y2) (by simp)]
      simp
end Go.Proofs.YtckbjhmiopjlkaaDoor
