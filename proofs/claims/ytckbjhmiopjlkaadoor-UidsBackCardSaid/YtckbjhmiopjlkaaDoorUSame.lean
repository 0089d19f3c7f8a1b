import Derived.Test.YtckbjhmiopjlkaaDoorUAlive
import Derived.Test.YtckbjhmiopjlkaaDoorUHas
import Derived.Test.YtckbjhmiopjlkaaDoorToldU3
set_option linter.unusedVariables false
set_option linter.unusedSimpArgs false
set_option maxRecDepth 100000
namespace Go.Proofs.YtckbjhmiopjlkaaDoor
/- alive; the reference's Same (for the claims of texts, apart from UTurned and UPicksLaw). -/
open Go Go.Ab Go.RowKit

def e_alive : List AV → Option AV
  | [] => some (bv true)
  | _ => none
theorem e_alive_ok (xs : List AV) (v : AV) (h : e_alive xs = some v) : PureCall X f_law09_alive xs v := by
  unfold e_alive at h
  split at h
  · cases h; exact pc_alive
  · cases h
noncomputable def inv_sm : Sref09_Same_0 → Bool
  | .s0 p ra q rb i => propB (∃ a b, ra = rowsOf a ∧ rb = rowsOf b ∧ a.length = b.length ∧ 0 ≤ i ∧ i ≤ a.length ∧ a.length ≤ 1000000000)
theorem i_sm {p q : Bool} {ra rb : List AV} {i : Int} (h : ∃ a b, ra = rowsOf a ∧ rb = rowsOf b ∧ a.length = b.length ∧ 0 ≤ i ∧ i ≤ a.length ∧ a.length ≤ 1000000000) : inv_sm (.s0 p ra q rb i) = true := propB_of h
def out_sm : Sref09_Same_0 → Oref09_Same_0
  | .s0 p ra q rb i => match decide (((pairsOf ra).getD []).drop i.toNat = ((pairsOf rb).getD []).drop i.toNat) with
    | true => .x1
    | false => .x0 false
theorem l_sm (K : PureK) : ∀ s o, lOf inv_sm out_sm s = some o → ∃ k, fuelRec (Rref09_Same_0 K some) k s = some o :=
  fuel_of inv_sm out_sm (fun | .s0 _ ra _ _ i => (ra.length - i).toNat) (by
    rintro ⟨p, ra, q, rb, i⟩ rec hi hrec
    obtain ⟨a, b, rfl, rfl, hab, h0, h1, h2⟩ := of_propB hi
    simp only [Rref09_Same_0, out_sm, pairsOf_rows, Option.getD_some]
    by_cases h : i < a.length
    · have hlt : i.toNat < a.length := by omega
      have hltb : i.toNat < b.length := by omega
      have ha2 : i < ((rowsOf a).length : Nat) := by rw [rowsOf_len]; exact h
      have hb2 : i < ((rowsOf b).length : Nat) := by rw [rowsOf_len]; omega
      rw [br_yesD ha2, br_yesD h0, br_yesD ha2, rowsOf_get _ _ hlt]
      simp only [optK_s]
      rw [asAgg_v _ 2 rfl]
      simp only [List.getD_cons_zero, List.getD_cons_succ, asInt_v]
      rw [br_yesD h0, br_yesD hb2, rowsOf_get _ _ hltb]
      simp only [optK_s]
      rw [asAgg_v _ 2 rfl]
      simp only [List.getD_cons_zero, List.getD_cons_succ, asInt_v]
      rw [List.drop_eq_getElem_cons hlt, List.drop_eq_getElem_cons hltb]
      by_cases e : a[i.toNat] = b[i.toNat]
      · rw [br_neg (by simp [e]), w64_id (n := i + 1) (by omega) (by omega), hrec _ (i_sm ⟨a, b, rfl, rfl, hab, by omega, by omega, h2⟩) (by show (((rowsOf a).length : Nat) - (i + 1) : Int).toNat < (((rowsOf a).length : Nat) - i : Int).toNat; rw [rowsOf_len]; omega)]
        simp only [out_sm, pairsOf_rows, Option.getD_some, e, List.cons.injEq, true_and]
        rw [show (i + 1).toNat = i.toNat + 1 by omega]
      · rw [br_pos (by
          have : ¬ (a[i.toNat].1 = b[i.toNat].1 ∧ a[i.toNat].2 = b[i.toNat].2) := fun ⟨x, y⟩ => e (Prod.ext x y)
          rcases Decidable.not_and_iff_or_not.1 this with h | h <;> simp [h])]
        simp only [List.cons.injEq, e, false_and, decide_false]
    · have ha2 : ¬ i < ((rowsOf a).length : Nat) := by rw [rowsOf_len]; exact h
      rw [br_noD ha2]
      have e1 : i.toNat = a.length := by omega
      rw [e1, List.drop_length, hab, List.drop_length]
      simp)
def e_Same : List AV → Option AV
  | [.lst 2 _ ra, .lst 2 _ rb] => match pairsOf ra, pairsOf rb with
    | some a, some b => br (decide (a.length ≤ 1000000000)) (some (bv (decide (a = b)))) none
    | _, _ => none
  | _ => none
theorem e_Same_ok (xs : List AV) (v : AV) (h : e_Same xs = some v) : PureCall X f_ref09_Same xs v := by
  unfold e_Same at h
  split at h
  · rename_i p ra q rb
    split at h
    · rename_i a b ha hb
      obtain ⟨h1, h⟩ := br_yes h
      have h1 : a.length ≤ 1000000000 := of_decide_eq_true h1
      cases h
      obtain rfl := rows_of_pairs ha
      obtain rfl := rows_of_pairs hb
      refine pcref09_Same (tab_ok [] tab_nil) (l_sm _) ?_
      unfold Rref09_Same
      rw [rowsOf_len, rowsOf_len]
      by_cases hl : a.length = b.length
      · rw [br_neg (by simp [hl]), lOf_pos (i_sm ⟨a, b, rfl, rfl, hl, Int.le_refl 0, by omega, h1⟩)]
        simp only [optK_s, out_sm, pairsOf_rows, Option.getD_some]
        rw [show (0 : Int).toNat = 0 from rfl, List.drop_zero, List.drop_zero]
        cases decide (a = b) <;> rfl
      · rw [br_pos (by simp; omega), decide_eq_false (fun e => hl (by rw [e]))]
    · cases h
  · cases h
theorem kSame {T : Tab} (hT : tabK T f_ref09_Same = e_Same) {b c : Bool} {l m : List (Int × Int)} (h : l.length ≤ 1000000000) : tabK T f_ref09_Same [.lst 2 b (rowsOf l), .lst 2 c (rowsOf m)] = some (bv (decide (l = m))) := by
  rw [hT]
  show (match pairsOf (rowsOf l), pairsOf (rowsOf m) with
    | some a, some b => br (decide (a.length ≤ 1000000000)) (some (bv (decide (a = b)))) none
    | _, _ => none) = _
  rw [pairsOf_rows, pairsOf_rows]
  exact br_yesD h
end Go.Proofs.YtckbjhmiopjlkaaDoor
