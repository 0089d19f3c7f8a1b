import Derived.Test.YtckbjhmiopjlkaaDoorURight
import Derived.Test.YtckbjhmiopjlkaaDoorUTextLaw
set_option linter.unusedVariables false
set_option linter.unusedSimpArgs false
set_option maxRecDepth 100000
namespace Go.Proofs.YtckbjhmiopjlkaaDoor
/- uids.Print and the reference's. -/
open Go Go.Ab Go.RowKit

def partS (r : Int × Int) : ByteArray := bs (partV r)
noncomputable def tbPr : Tab := [(f_uids_Right, e_Right), (f_uids_end, e_End), (f_strings_Join, e_Join)]
theorem tbPr_ok : TabOk X tbPr := tab_cons e_Right_ok (tab_cons e_End_ok (tab_cons e_Join_ok tab_nil))
theorem svs_app (a b : List ByteArray) : svs a ++ svs b = svs (a ++ b) := by simp [svs]
theorem len_ok16b {n : Nat} (h : n ≤ 1000) : (lenOk n 16 && lenOk n 1) = true := by
  unfold lenOk maxBytes
  simp only [Bool.and_eq_true]
  exact ⟨Nat.ble_eq_true_of_le (by omega), Nat.ble_eq_true_of_le (by omega)⟩
def oneS (l : List (Int × Int)) : Prop := ∀ r ∈ l, goodR r
noncomputable def inv_pr : Suids_Print_0 → Bool
  | .s0 b rows k i => propB (∃ l, rows = rowsOf l ∧ k = l.length ∧ 0 ≤ i ∧ i ≤ k ∧ l.length ≤ 60 ∧ oneS l)
  | .s1 b rows k i a c o => propB (∃ l os, rows = rowsOf l ∧ o = svs os ∧ os.length ≤ i ∧ k = l.length ∧ 0 ≤ i ∧ i ≤ k ∧ l.length ≤ 60 ∧ oneS l)
theorem i_pr0 {b : Bool} {rows : List AV} {k i : Int} (h : ∃ l, rows = rowsOf l ∧ k = l.length ∧ 0 ≤ i ∧ i ≤ k ∧ l.length ≤ 60 ∧ oneS l) : inv_pr (.s0 b rows k i) = true := propB_of h
theorem i_pr1 {b : Bool} {rows o : List AV} {k i a c : Int} (h : ∃ l os, rows = rowsOf l ∧ o = svs os ∧ os.length ≤ i ∧ k = l.length ∧ 0 ≤ i ∧ i ≤ k ∧ l.length ≤ 60 ∧ oneS l) : inv_pr (.s1 b rows k i a c o) = true := propB_of h
def out_pr : Suids_Print_0 → Ouids_Print_0
  | .s0 b rows k i => match ((pairsOf rows).getD []).drop i.toNat with
    | [] => .x0
    | r :: l => .x1 r.1 r.2 (svs ((r :: l).map partS))
  | .s1 b rows k i a c o => .x1 a c (o ++ svs ((((pairsOf rows).getD []).drop i.toNat).map partS))
theorem l_pr : ∀ s o, lOf inv_pr out_pr s = some o → ∃ k, fuelRec (Ruids_Print_0 (tabK tbPr) some) k s = some o :=
  fuel_of inv_pr out_pr (fun | .s0 _ _ k i => (k - i).toNat | .s1 _ _ k i _ _ _ => (k - i).toNat) (by
    intro s rec hi hrec
    cases s with
    | s0 b rows k i =>
      obtain ⟨l, rfl, rfl, h0, h1, h2, h3⟩ := of_propB hi
      simp only [Ruids_Print_0, out_pr, pairsOf_rows, Option.getD_some]
      by_cases h : i < l.length
      · have hlt : i.toNat < l.length := by omega
        obtain ⟨⟨g1, g2⟩, g3, g4⟩ := h3 l[i.toNat] (List.getElem_mem hlt)
        have n1 := endV_len g1 g2
        have n2 := endV_len g3 g4
        rw [br_yesD h, br_yesD h0, rowsOf_len, br_yesD h, rowsOf_get _ _ hlt, List.drop_eq_getElem_cons hlt]
        simp only [optK_s]
        rw [asAgg_v _ 2 rfl]
        simp only [List.getD_cons_zero, List.getD_cons_succ, asInt_v]
        rw [kEnd (T := tbPr) (f := f_uids_end) rfl g1 g2, kEnd (T := tbPr) (f := f_uids_end) rfl g3 g4]
        simp only [optK_s, asStr_v]
        have fin : ∀ x, x = partS l[i.toNat] → rec (.s1 b (rowsOf l) l.length (w64 (i + 1)) l[i.toNat].1 l[i.toNat].2 [sv x]) = some (.x1 l[i.toNat].1 l[i.toNat].2 (svs ((l[i.toNat] :: l.drop (i.toNat + 1)).map partS))) := by
          rintro x rfl
          have e := hrec (.s1 b (rowsOf l) l.length (i + 1) l[i.toNat].1 l[i.toNat].2 (svs [partS l[i.toNat]])) (i_pr1 ⟨l, _, rfl, rfl, by simp; omega, rfl, by omega, by omega, h2, h3⟩) (by show ((l.length : Int) - (i + 1)).toNat < ((l.length : Int) - i).toNat; omega)
          simp only [out_pr, pairsOf_rows, Option.getD_some, svs_app] at e
          rw [show (i + 1).toNat = i.toNat + 1 by omega] at e
          rw [w64_id (n := i + 1) (by omega) (by omega)]
          exact e
        rw [show ({ data := #[58] } : ByteArray) = bs [58] from rfl]
        simp only [bs_append, bs_size, List.singleton_append]
        by_cases e : l[i.toNat].2 = l[i.toNat].1
        · rw [br_neg (by simpa using e)]
          refine fin _ ?_
          unfold partS partV
          rw [decide_eq_true e]
        · rw [br_pos (by simpa using e), br_pos (ble_ok (by omega)), br_pos (ble_ok (by simp; omega))]
          refine fin _ ?_
          unfold partS partV
          rw [decide_eq_false e]
      · rw [br_noD h]
        have : i.toNat = l.length := by omega
        rw [this, List.drop_length]
    | s1 b rows k i a c o =>
      obtain ⟨l, os, rfl, rfl, ho, rfl, h0, h1, h2, h3⟩ := of_propB hi
      simp only [Ruids_Print_0, out_pr, pairsOf_rows, Option.getD_some]
      by_cases h : i < l.length
      · have hlt : i.toNat < l.length := by omega
        obtain ⟨⟨g1, g2⟩, g3, g4⟩ := h3 l[i.toNat] (List.getElem_mem hlt)
        have n1 := endV_len g1 g2
        have n2 := endV_len g3 g4
        rw [br_yesD h, br_yesD h0, rowsOf_len, br_yesD h, rowsOf_get _ _ hlt, List.drop_eq_getElem_cons hlt]
        simp only [optK_s]
        rw [asAgg_v _ 2 rfl]
        simp only [List.getD_cons_zero, List.getD_cons_succ, asInt_v]
        rw [kEnd (T := tbPr) (f := f_uids_end) rfl g1 g2, kEnd (T := tbPr) (f := f_uids_end) rfl g3 g4]
        simp only [optK_s, asStr_v]
        have fin : ∀ x, x = partS l[i.toNat] → rec (.s1 b (rowsOf l) l.length (w64 (i + 1)) a c (svs os ++ [sv x])) = some (.x1 a c (svs os ++ svs ((l[i.toNat] :: l.drop (i.toNat + 1)).map partS))) := by
          rintro x rfl
          have e := hrec (.s1 b (rowsOf l) l.length (i + 1) a c (svs (os ++ [partS l[i.toNat]]))) (i_pr1 ⟨l, _, rfl, rfl, by simp; omega, rfl, by omega, by omega, h2, h3⟩) (by show ((l.length : Int) - (i + 1)).toNat < ((l.length : Int) - i).toNat; omega)
          simp only [out_pr, pairsOf_rows, Option.getD_some, svs_app, List.append_assoc, List.singleton_append] at e
          rw [show (i + 1).toNat = i.toNat + 1 by omega] at e
          rw [w64_id (n := i + 1) (by omega) (by omega), show [sv (partS l[i.toNat])] = svs [partS l[i.toNat]] from rfl, svs_app, svs_app]
          exact e
        have hlo : ∀ x : AV, (lenOk ((svs os).length + [x].length) 16 && lenOk ((svs os).length + [x].length) 1) = true := fun x => len_ok16b (by rw [svs_len]; simp; omega)
        rw [show ({ data := #[58] } : ByteArray) = bs [58] from rfl]
        simp only [bs_append, bs_size, List.singleton_append]
        by_cases e : l[i.toNat].2 = l[i.toNat].1
        · rw [br_neg (by simpa using e), br_pos (hlo _)]
          refine fin _ ?_
          unfold partS partV
          rw [decide_eq_true e]
        · rw [br_pos (by simpa using e), br_pos (ble_ok (by omega)), br_pos (ble_ok (by simp; omega)), br_pos (hlo _)]
          refine fin _ ?_
          unfold partS partV
          rw [decide_eq_false e]
      · rw [br_noD h]
        have : i.toNat = l.length := by omega
        rw [this, List.drop_length]
        simp [svs])
def prV (l : List (Int × Int)) : AV := match rightV l with
  | true => .tup [sv (bs (printL l)), iv 0]
  | false => .tup [sv (bs []), iv 1]
def e_Print : List AV → Option AV
  | [.lst 2 b rows] => match pairsOf rows with
    | some l => br (decide (l.length ≤ 1000000000)) (some (prV l)) none
    | none => none
  | _ => none
theorem kPrint {T : Tab} {f : FuncId} (hT : tabK T f = e_Print) {b : Bool} {l : List (Int × Int)} (h : l.length ≤ 1000000000) : tabK T f [.lst 2 b (rowsOf l)] = some (prV l) := by
  rw [hT]
  show (match pairsOf (rowsOf l) with | some l => br (decide (l.length ≤ 1000000000)) (some (prV l)) none | none => none) = _
  rw [pairsOf_rows]
  exact br_yesD h
theorem joinL_parts (l : List (Int × Int)) : joinL (l.map partS) (bs [44]) = printL l := by
  unfold joinL printL
  rw [List.map_map, bs_list]
  congr 1
theorem kJoin {T : Tab} (hT : tabK T f_strings_Join = e_Join) {b : Bool} {l : List ByteArray} {sep : ByteArray} (h : l.length ≤ 100000) (h2 : (joinL l sep).length ≤ 100000000) : tabK T f_strings_Join [.lst 1 b (svs l), sv sep] = some (sv (bs (joinL l sep))) := by
  rw [hT]
  show (match strsOf (svs l) with | some l => br (decide (l.length ≤ 100000) && decide ((joinL l sep).length ≤ 100000000)) (some (sv ⟨(joinL l sep).toArray⟩)) none | none => none) = _
  rw [strsOf_svs]
  exact br_pos (by rw [decide_eq_true h, decide_eq_true h2]; rfl)
theorem e_Print_ok (xs : List AV) (v : AV) (h : e_Print xs = some v) : PureCall X f_uids_Print xs v := by
  unfold e_Print at h
  split at h
  · rename_i b rows
    split at h
    · rename_i l hl
      obtain ⟨h1, h⟩ := br_yes h
      have h1 : l.length ≤ 1000000000 := of_decide_eq_true h1
      cases h
      obtain rfl := rows_of_pairs hl
      refine pcuids_Print (tab_ok _ tbPr_ok) l_pr ?_
      unfold Ruids_Print prV
      rw [kRight (T := tbPr) (f := f_uids_Right) rfl h1]
      simp only [optK_s, asBool_v]
      cases hr : rightV l with
      | false => rfl
      | true =>
        obtain ⟨q1, q2, q3⟩ := rightV_iff.1 hr
        have hlen := print_len q3
        rw [Bool.not_true, br_f, lOf_pos (i_pr0 ⟨l, rfl, by rw [rowsOf_len], Int.le_refl 0, by omega, q2, q3⟩)]
        simp only [optK_s, out_pr, pairsOf_rows, Option.getD_some]
        rw [show (0 : Int).toNat = 0 from rfl, List.drop_zero]
        cases l with
        | nil => simp at q1
        | cons r l =>
          simp only [Ouids_Print_0.k]
          rw [show ({ data := #[44] } : ByteArray) = bs [44] from rfl, kJoin (T := tbPr) rfl (by simp at q2 ⊢; omega) (by rw [joinL_parts]; simp at q2 hlen; omega), joinL_parts]
          simp only [optK_s, asStr_v]
    · cases h
  · cases h

/-- The reference's way of writing. -/
def restP : Bool → List (Int × Int) → List UInt8
  | _, [] => []
  | true, r :: l => partV r ++ restP false l
  | false, r :: l => 44 :: partV r ++ restP false l
theorem restP_join : ∀ (r : Int × Int) (l : List (Int × Int)), restP true (r :: l) = printL (r :: l)
  | r, [] => by simp [restP, printL, Lib.join_one]
  | r, q :: l => by
    have ih := restP_join q l
    unfold printL at ih ⊢
    rw [List.map_cons, List.map_cons, join_cons, ← List.map_cons, ← ih]
    simp [restP]
noncomputable def tbRp2 : Tab := [(f_ref09_Right, e_Right), (f_ref09_end, e_End)]
theorem tbRp2_ok : TabOk X tbRp2 := tab_cons e_rRight_ok (tab_cons e_rEnd_ok tab_nil)
noncomputable def inv_rq : Sref09_Print_0 → Bool
  | .s0 b rows s i => propB (∃ l, rows = rowsOf l ∧ 0 ≤ i ∧ i ≤ l.length ∧ l.length ≤ 60 ∧ (s.size : Int) ≤ 30 * i ∧ oneS l)
theorem i_rq {b : Bool} {rows : List AV} {s : ByteArray} {i : Int} (h : ∃ l, rows = rowsOf l ∧ 0 ≤ i ∧ i ≤ l.length ∧ l.length ≤ 60 ∧ (s.size : Int) ≤ 30 * i ∧ oneS l) : inv_rq (.s0 b rows s i) = true := propB_of h
def out_rq : Sref09_Print_0 → Oref09_Print_0
  | .s0 b rows s i => .x0 (s ++ bs (restP (decide (i = 0)) (((pairsOf rows).getD []).drop i.toNat)))
theorem asAgg_p {β : Type} (a b : Int) (k : (Nat → AV) → Option β) : Ab.asAgg (.agg [iv a, iv b]) 2 k = k (fun i => [iv a, iv b].getD i .dead) := asAgg_v [iv a, iv b] 2 rfl k
theorem l_rq : ∀ s o, lOf inv_rq out_rq s = some o → ∃ k, fuelRec (Rref09_Print_0 (tabK tbRp2) some) k s = some o :=
  fuel_of inv_rq out_rq (fun | .s0 _ rows _ i => (rows.length - i).toNat) (by
    rintro ⟨b, rows, s, i⟩ rec hi hrec
    obtain ⟨l, rfl, h0, h1, h2, hs, h3⟩ := of_propB hi
    obtain ⟨m, rfl⟩ := exists_bs s
    rw [bs_size] at hs
    simp only [Rref09_Print_0, out_rq, pairsOf_rows, Option.getD_some]
    have hl3 : (((rowsOf l).length : Nat) : Int) = (l.length : Int) := by rw [rowsOf_len]
    rw [hl3]
    by_cases h : i < l.length
    · have hlt : i.toNat < l.length := by omega
      obtain ⟨⟨g1, g2⟩, g3, g4⟩ := h3 l[i.toNat] (List.getElem_mem hlt)
      have n1 := endV_len g1 g2
      have n2 := endV_len g3 g4
      have fin : ∀ x y, m ++ y = x → y.length ≤ 30 → (y ++ restP false (l.drop (i.toNat + 1)) = restP (decide (i = 0)) (l.drop i.toNat)) → rec (.s0 b (rowsOf l) (bs x) (w64 (i + 1))) = some (.x0 (bs m ++ bs (restP (decide (i = 0)) (l.drop i.toNat)))) := by
        rintro x y rfl hy he
        rw [w64_id (n := i + 1) (by omega) (by omega), hrec _ (i_rq ⟨l, rfl, by omega, by omega, h2, by rw [bs_size, List.length_append]; omega, h3⟩) (by show (((rowsOf l).length : Nat) - (i + 1) : Int).toNat < (((rowsOf l).length : Nat) - i : Int).toNat; rw [rowsOf_len]; omega)]
        simp only [out_rq, pairsOf_rows, Option.getD_some]
        rw [show (i + 1).toNat = i.toNat + 1 by omega, decide_eq_false (show ¬ i + 1 = 0 by omega), ← he, bs_append, bs_append, List.append_assoc]
      rw [show ({ data := #[58] } : ByteArray) = bs [58] from rfl, show ({ data := #[44] } : ByteArray) = bs [44] from rfl]
      simp only [br_yesD h, br_yesD h0, rowsOf_get _ _ hlt, optK_s, asAgg_p, List.getD_cons_zero, List.getD_cons_succ, asInt_v, kEnd (T := tbRp2) (f := f_ref09_end) rfl g1 g2, kEnd (T := tbRp2) (f := f_ref09_end) rfl g3 g4, asStr_v, bs_append, bs_size]
      rw [List.drop_eq_getElem_cons hlt] at fin ⊢
      by_cases hz : i > 0
      · rw [br_yesD hz, br_pos (ble_ok (by omega)), br_pos (ble_ok (by simp; omega))]
        rw [decide_eq_false (show ¬ i = 0 by omega)] at fin ⊢
        by_cases e : l[i.toNat].2 = l[i.toNat].1
        · rw [br_neg (by simpa using e)]
          refine fin _ (44 :: partV l[i.toNat]) ?_ (by have := part_len ⟨⟨g1, g2⟩, g3, g4⟩; simp; omega) (by simp [restP])
          unfold partV
          rw [decide_eq_true e]
          simp
        · rw [br_pos (by simpa using e), br_pos (ble_ok (by simp; omega)), br_pos (ble_ok (by simp; omega))]
          refine fin _ (44 :: partV l[i.toNat]) ?_ (by have := part_len ⟨⟨g1, g2⟩, g3, g4⟩; simp; omega) (by simp [restP])
          unfold partV
          rw [decide_eq_false e]
          simp
      · rw [br_noD hz, br_pos (ble_ok (by omega))]
        rw [decide_eq_true (show i = 0 by omega)] at fin ⊢
        by_cases e : l[i.toNat].2 = l[i.toNat].1
        · rw [br_neg (by simpa using e)]
          refine fin _ (partV l[i.toNat]) ?_ (by have := part_len ⟨⟨g1, g2⟩, g3, g4⟩; omega) (by simp [restP])
          unfold partV
          rw [decide_eq_true e]
        · rw [br_pos (by simpa using e), br_pos (ble_ok (by simp; omega)), br_pos (ble_ok (by simp; omega))]
          refine fin _ (partV l[i.toNat]) ?_ (by have := part_len ⟨⟨g1, g2⟩, g3, g4⟩; omega) (by simp [restP])
          unfold partV
          rw [decide_eq_false e]
          simp
    · rw [br_noD h]
      have : i.toNat = l.length := by omega
      rw [this, List.drop_length]
      simp [restP, bs_append])
theorem e_rPrint_ok (xs : List AV) (v : AV) (h : e_Print xs = some v) : PureCall X f_ref09_Print xs v := by
  unfold e_Print at h
  split at h
  · rename_i b rows
    split at h
    · rename_i l hl
      obtain ⟨h1, h⟩ := br_yes h
      have h1 : l.length ≤ 1000000000 := of_decide_eq_true h1
      cases h
      obtain rfl := rows_of_pairs hl
      refine pcref09_Print (tab_ok _ tbRp2_ok) l_rq ?_
      unfold Rref09_Print prV
      rw [kRight (T := tbRp2) (f := f_ref09_Right) rfl h1]
      simp only [optK_s, asBool_v]
      cases hr : rightV l with
      | false => rfl
      | true =>
        obtain ⟨q1, q2, q3⟩ := rightV_iff.1 hr
        rw [Bool.not_true, br_f, lOf_pos (i_rq ⟨l, rfl, Int.le_refl 0, by omega, q2, by decide, q3⟩)]
        simp only [optK_s, out_rq, pairsOf_rows, Option.getD_some, Oref09_Print_0.k]
        rw [show (0 : Int).toNat = 0 from rfl, List.drop_zero, emp, bs_append, List.nil_append]
        cases l with
        | nil => simp at q1
        | cons r l => rw [decide_eq_true trivial, restP_join]
    · cases h
  · cases h
end Go.Proofs.YtckbjhmiopjlkaaDoor
