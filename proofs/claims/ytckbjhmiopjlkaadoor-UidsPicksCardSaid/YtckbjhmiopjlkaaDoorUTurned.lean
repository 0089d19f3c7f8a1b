import Derived.Test.YtckbjhmiopjlkaaDoorUHas
import Derived.Test.YtckbjhmiopjlkaaDoorUAlive
import Derived.Test.YtckbjhmiopjlkaaDoorToldTurned
set_option linter.unusedVariables false
set_option linter.unusedSimpArgs false
set_option maxRecDepth 100000
namespace Go.Proofs.YtckbjhmiopjlkaaDoor
/- The law UidsTurned, plain. -/
open Go Go.Ab Go.RowKit

def swapR (r : Int × Int) : Int × Int := (r.2, r.1)
def nameR (last : Int) (r : Int × Int) : Int × Int := (realV last r.1, realV last r.2)
theorem inV_swap (last n : Int) (r : Int × Int) : inV last n (swapR r) = inV last n r := by
  unfold inV swapR
  simp only [Int.min_comm (realV last r.2), Int.max_comm (realV last r.2)]
theorem realV_ne {last : Int} (h : 1 ≤ last) (e : Int) : realV last e ≠ 0 := by
  unfold realV
  by_cases he : e = 0
  · rw [if_pos (by simpa using he)]; omega
  · rw [if_neg (by simpa using he)]; exact he
theorem realV_real {last : Int} (h : 1 ≤ last) (L e : Int) : realV L (realV last e) = realV last e := by
  have := realV_ne h e
  generalize realV last e = x at *
  unfold realV
  rw [if_neg (by simpa using this)]
theorem inV_name {last : Int} (h : 1 ≤ last) (L n : Int) (r : Int × Int) : inV L n (nameR last r) = inV last n r := by
  unfold inV nameR
  simp only [realV_real h]
theorem hasV_swap (l : List (Int × Int)) (n last : Int) : hasV (l.map swapR) n last = hasV l n last := by
  unfold hasV
  rw [List.any_map]
  congr 2
  funext r
  exact inV_swap last n r
theorem hasV_name {last : Int} (h : 1 ≤ last) (l : List (Int × Int)) (n L : Int) : hasV (l.map (nameR last)) n L = hasV l n last := by
  unfold hasV
  rw [List.any_map]
  congr 2
  funext r
  exact inV_name h L n r

def e_alive : List AV → Option AV
  | [] => some (bv true)
  | _ => none
theorem e_alive_ok (xs : List AV) (v : AV) (h : e_alive xs = some v) : PureCall X f_law09_alive xs v := by
  unfold e_alive at h
  split at h
  · cases h; exact pc_alive
  · cases h
def tbTu : Tab := [(f_law09_alive, e_alive), (f_uids_Has, e_Has)]
theorem tbTu_ok : TabOk X tbTu := tab_cons e_alive_ok (tab_cons e_Has_ok tab_nil)
theorem kTu {b : Bool} {l : List (Int × Int)} {n last : Int} (h : l.length ≤ 1000000000) : tabK tbTu f_uids_Has [.lst 2 b (rowsOf l), iv n, iv last] = some (bv (hasV l n last)) := kHas rfl h

theorem rows_app (a b : List (Int × Int)) : rowsOf a ++ rowsOf b = rowsOf (a ++ b) := by simp [rowsOf]
theorem rows_one (x : Int × Int) : [AV.agg [iv x.1, iv x.2]] = rowsOf [x] := rfl

noncomputable def inv_tu : Slaw09_UidsTurned_0 → Bool
  | .s0 b rows n last i => propB (∃ l, rows = rowsOf l ∧ i = 0 ∧ l.length ≤ 200)
  | .s1 b rows n last i o0 p q o2 => propB (∃ l, rows = rowsOf l ∧ 1 ≤ i ∧ i ≤ l.length ∧ l.length ≤ 200 ∧ o0 = rowsOf ((l.take i.toNat).map swapR) ∧ o2 = rowsOf ((l.take i.toNat).map (nameR last)))
theorem i_tu1 {b : Bool} {rows : List AV} {n last i p q : Int} {o0 o2 : List AV} (h : ∃ l, rows = rowsOf l ∧ 1 ≤ i ∧ i ≤ l.length ∧ l.length ≤ 200 ∧ o0 = rowsOf ((l.take i.toNat).map swapR) ∧ o2 = rowsOf ((l.take i.toNat).map (nameR last))) :
    inv_tu (.s1 b rows n last i o0 p q o2) = true := propB_of h
theorem i_tu0 {b : Bool} {rows : List AV} {n last i : Int} (h : ∃ l, rows = rowsOf l ∧ i = 0 ∧ l.length ≤ 200) : inv_tu (.s0 b rows n last i) = true := propB_of h
def out_tu : Slaw09_UidsTurned_0 → Olaw09_UidsTurned_0
  | .s0 b rows n last i => match (pairsOf rows).getD [] with
    | [] => .x0 b rows n last
    | r :: l => .x1 b rows n last (rowsOf ((r :: l).map swapR)) (realV last r.1) (realV last r.2) (rowsOf ((r :: l).map (nameR last)))
  | .s1 b rows n last i o0 p q o2 => .x1 b rows n last (rowsOf (((pairsOf rows).getD []).map swapR)) p q (rowsOf (((pairsOf rows).getD []).map (nameR last)))
theorem len_ok {n : Nat} (h : n ≤ 1000) : (lenOk n 16 && lenOk n 1) = true := by
  unfold lenOk maxBytes
  simp only [Bool.and_eq_true]
  exact ⟨Nat.ble_eq_true_of_le (by omega), Nat.ble_eq_true_of_le (by omega)⟩
theorem l_tu : ∀ s o, lOf inv_tu out_tu s = some o → ∃ k, fuelRec (Rlaw09_UidsTurned_0 (tabK tbTu) some) k s = some o :=
  fuel_of inv_tu out_tu (fun | .s0 _ rows _ _ _ => rows.length + 1 | .s1 _ rows _ _ i _ _ _ _ => (rows.length - i).toNat) (by
    intro s rec hi hrec
    cases s with
    | s0 b rows n last i =>
      obtain ⟨l, rfl, rfl, h2⟩ := of_propB hi
      simp only [Rlaw09_UidsTurned_0, out_tu, pairsOf_rows, Option.getD_some]
      cases l with
      | nil => rfl
      | cons r l =>
        have hlt : (0 : Int) < ((rowsOf (r :: l)).length : Nat) := by rw [rowsOf_len]; simp only [List.length_cons]; omega
        have hget : (rowsOf (r :: l))[(0 : Int).toNat]? = some (.agg [iv r.1, iv r.2]) := rfl
        have hr : ∀ p q : Int, p = realV last r.1 → q = realV last r.2 → rec (.s1 b (rowsOf (r :: l)) n last (w64 (0 + 1)) [AV.agg [iv r.2, iv r.1]] p q [AV.agg [iv p, iv q]])
            = some (.x1 b (rowsOf (r :: l)) n last (rowsOf ((r :: l).map swapR)) (realV last r.1) (realV last r.2) (rowsOf ((r :: l).map (nameR last)))) := by
          rintro p q rfl rfl
          rw [show w64 (0 + 1) = 1 from rfl]
          have h := hrec (.s1 b (rowsOf (r :: l)) n last 1 (rowsOf [swapR r]) (realV last r.1) (realV last r.2) (rowsOf [nameR last r])) (i_tu1 ⟨r :: l, rfl, by omega, by simp only [List.length_cons]; omega, h2, rfl, rfl⟩) (by
            show (((rowsOf (r :: l)).length : Nat) - 1 : Int).toNat < (rowsOf (r :: l)).length + 1
            omega)
          simp only [out_tu, pairsOf_rows, Option.getD_some] at h
          exact h
        rw [br_yesD hlt, br_yesD (Int.le_refl 0), br_yesD hlt, hget]
        simp only [optK_s]
        rw [asAgg_v _ 2 rfl]
        simp only [List.getD_cons_zero, List.getD_cons_succ, asInt_v]
        rw [br_yesD (Int.le_refl 0), br_yesD hlt]
        rw [asAgg_v _ 2 rfl]
        simp only [List.getD_cons_zero, List.getD_cons_succ, asInt_v]
        rw [br_yesD (Int.le_refl 0), br_yesD hlt]
        rw [asAgg_v _ 2 rfl]
        simp only [List.getD_cons_zero, List.getD_cons_succ, asInt_v]
        cases ha : r.1 == 0 <;> cases hb : r.2 == 0 <;> simp only [br_t, br_f] <;> exact hr _ _ (by simp [realV, ha]) (by simp [realV, hb])
    | s1 b rows n last i o0 p q o2 =>
      obtain ⟨l, rfl, h1, h2, h3, rfl, rfl⟩ := of_propB hi
      simp only [Rlaw09_UidsTurned_0, out_tu, pairsOf_rows, Option.getD_some]
      by_cases h : i < l.length
      · have hlt : i.toNat < l.length := by omega
        have hlt2 : i < ((rowsOf l).length : Nat) := by rw [rowsOf_len]; exact h
        have hr : ∀ x y : Int, x = realV last l[i.toNat].1 → y = realV last l[i.toNat].2 → rec (.s1 b (rowsOf l) n last (w64 (i + 1)) (rowsOf ((l.take i.toNat).map swapR) ++ [AV.agg [iv l[i.toNat].2, iv l[i.toNat].1]]) p q (rowsOf ((l.take i.toNat).map (nameR last)) ++ [AV.agg [iv x, iv y]]))
            = some (.x1 b (rowsOf l) n last (rowsOf (l.map swapR)) p q (rowsOf (l.map (nameR last)))) := by
          rintro x y rfl rfl
          rw [w64_id (n := i + 1) (by omega) (by omega)]
          have ht : l.take (i + 1).toNat = l.take i.toNat ++ [l[i.toNat]] := by
            rw [show (i + 1).toNat = i.toNat + 1 by omega, List.take_succ_eq_append_getElem hlt]
          rw [hrec _ (i_tu1 ⟨l, rfl, by omega, by omega, h3, by rw [ht, List.map_append, ← rows_app]; rfl, by rw [ht, List.map_append, ← rows_app]; rfl⟩) (by
            show (((rowsOf l).length : Nat) - (i + 1) : Int).toNat < (((rowsOf l).length : Nat) - i : Int).toNat
            omega)]
          simp only [out_tu, pairsOf_rows, Option.getD_some]
        have hlen : ∀ (f : Int × Int → Int × Int) (x : AV), (lenOk ((rowsOf ((l.take i.toNat).map f)).length + [x].length) 16 && lenOk ((rowsOf ((l.take i.toNat).map f)).length + [x].length) 1) = true := by
          intro f x
          refine len_ok ?_
          rw [rowsOf_len, List.length_map, List.length_take]
          simp
          omega
        rw [br_yesD hlt2, br_yesD (by omega), br_yesD hlt2, rowsOf_get _ _ hlt]
        simp only [optK_s]
        rw [asAgg_v _ 2 rfl]
        simp only [List.getD_cons_zero, List.getD_cons_succ, asInt_v]
        rw [br_yesD (by omega), br_yesD hlt2]
        rw [asAgg_v _ 2 rfl]
        simp only [List.getD_cons_zero, List.getD_cons_succ, asInt_v]
        rw [br_pos (hlen _ _), br_yesD (by omega), br_yesD hlt2]
        rw [asAgg_v _ 2 rfl]
        simp only [List.getD_cons_zero, List.getD_cons_succ, asInt_v]
        cases ha : l[i.toNat].1 == 0 <;> cases hb : l[i.toNat].2 == 0 <;> simp only [br_t, br_f] <;> rw [br_pos (hlen _ _)] <;> exact hr _ _ (by simp [realV, ha]) (by simp [realV, hb])
      · have hlt2 : ¬ i < ((rowsOf l).length : Nat) := by rw [rowsOf_len]; exact h
        rw [br_noD hlt2]
        have : i.toNat = l.length := by omega
        rw [this, List.take_length])

theorem t_turned (b : Bool) (l : List (Int × Int)) (n last : Int) : Rlaw09_UidsTurned (tabK tbTu) (lOf inv_tu out_tu) b (rowsOf l) n last = some (bv true) := by
  unfold Rlaw09_UidsTurned
  rw [show tabK tbTu f_law09_alive [] = some (bv true) from rfl]
  simp only [optK_s, asBool_v, Bool.not_true, br_f]
  rw [rowsOf_len]
  by_cases hl : ((l.length : Nat) : Int) > 200
  · rw [br_yesD hl]; rfl
  · rw [br_noD hl]
    simp only [optK_s, asBool_v]
    by_cases h1 : last < 1
    · rw [br_yesD h1]
    · rw [br_noD h1, lOf_pos (i_tu0 ⟨l, rfl, rfl, by omega⟩)]
      simp only [optK_s, out_tu, pairsOf_rows, Option.getD_some]
      cases l with
      | nil =>
        simp only [Olaw09_UidsTurned_0.k]
        rw [show AV.lst 2 true [] = AV.lst 2 true (rowsOf []) from rfl, kTu (by simp), kTu (by simp), kTu (by simp)]
        simp only [optK_s, asBool_v, hasV, List.any_nil, Bool.and_false, beq_self_eq_true, br_t]
      | cons r l =>
        simp only [Olaw09_UidsTurned_0.k]
        simp at hl
        rw [kTu (by simp; omega), kTu (by simp; omega), kTu (by simp; omega), kTu (by simp; omega), hasV_swap, hasV_name (by omega), hasV_name (by omega)]
        simp only [optK_s, asBool_v, beq_self_eq_true, br_t]
end Go.Proofs.YtckbjhmiopjlkaaDoor
