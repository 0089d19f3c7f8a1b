import Derived.Test.YtckbjhmiopjlkaaDoorURead
import Derived.Test.YtckbjhmiopjlkaaDoorUSame
set_option linter.unusedVariables false
set_option linter.unusedSimpArgs false
set_option maxRecDepth 100000
namespace Go.Proofs.YtckbjhmiopjlkaaDoor
/- The laws UidsTexts and UidsBack, plain. -/
open Go Go.Ab Go.RowKit

theorem parse_shape (s : List UInt8) : ∃ (b : Bool) (l : List (Int × Int)) (e : Int), parseV numV s = .tup [.lst 2 b (rowsOf l), iv e] ∧ l.length ≤ 60 := by
  rcases parse_cases s with ⟨e, _, h⟩ | ⟨l, h, hr, _⟩
  · exact ⟨true, [], e, h, by simp⟩
  · exact ⟨false, l, 0, h, (rightV_iff.1 hr).2.1⟩
theorem prV_shape (l : List (Int × Int)) : ∃ (x : List UInt8) (g : Int), prV l = .tup [sv (bs x), iv g] := by
  unfold prV
  cases rightV l
  · exact ⟨[], 1, rfl⟩
  · exact ⟨printL l, 0, rfl⟩
noncomputable def tbLt : Tab := [(f_law09_alive, e_alive), (f_uids_Parse, e_Parse), (f_ref09_Parse, e_Parse), (f_uids_Print, e_Print), (f_ref09_Print, e_Print), (f_uids_Right, e_Right), (f_ref09_Right, e_Right), (f_ref09_Same, e_Same)]
theorem tbLt_ok : TabOk X tbLt := tab_cons e_alive_ok (tab_cons e_Parse_ok (tab_cons e_rParse_ok (tab_cons e_Print_ok (tab_cons e_rPrint_ok (tab_cons e_Right_ok (tab_cons e_rRight_ok (tab_cons e_Same_ok tab_nil)))))))
theorem kParse {T : Tab} {f : FuncId} (hT : tabK T f = e_Parse) {s : List UInt8} (h : s.length ≤ 5000) : tabK T f [sv (bs s)] = some (parseV numV s) := by
  rw [hT]
  show br (decide ((bs s).size ≤ 5000)) (some (parseV numV (bs s).data.toList)) none = _
  rw [bs_size, bs_list]
  exact br_yesD h
theorem asTup_p {β : Type} (a b : AV) (k : (Nat → AV) → Option β) : Ab.asTup (.tup [a, b]) 2 k = k (fun i => [a, b].getD i .dead) := asTup_v [a, b] 2 rfl k
theorem t_texts (s : List UInt8) (b : Bool) (l : List (Int × Int)) : Rlaw09_UidsTexts (tabK tbLt) (bs s) b (rowsOf l) = some (bv true) := by
  unfold Rlaw09_UidsTexts
  rw [show tabK tbLt f_law09_alive [] = some (bv true) from rfl]
  simp only [optK_s, asBool_v, Bool.not_true, br_f]
  have hl3 : (((rowsOf l).length : Nat) : Int) = (l.length : Int) := by rw [rowsOf_len]
  rw [hl3, bs_size]
  by_cases hs : (s.length : Int) > 3000
  · rw [br_yesD hs]; rfl
  · rw [br_noD hs]
    simp only [optK_s, asBool_v]
    by_cases hl : (l.length : Int) > 200
    · rw [br_yesD hl]
    · obtain ⟨c, m, e, hp, hm⟩ := parse_shape s
      obtain ⟨x, g, hx⟩ := prV_shape l
      rw [br_noD hl, kParse (T := tbLt) (f := f_uids_Parse) rfl (by omega), kParse (T := tbLt) (f := f_ref09_Parse) rfl (by omega), kPrint (T := tbLt) (f := f_uids_Print) rfl (by omega), kPrint (T := tbLt) (f := f_ref09_Print) rfl (by omega),
        kRight (T := tbLt) (f := f_uids_Right) rfl (by omega), kRight (T := tbLt) (f := f_ref09_Right) rfl (by omega), hp, hx]
      simp only [optK_s, asTup_p, List.getD_cons_zero, List.getD_cons_succ, asLst_2, asInt_v, asStr_v, asBool_v]
      rw [kSame (T := tbLt) rfl (by omega)]
      simp only [optK_s, asBool_v, decide_true, br_t, strEq_bs, beq_self_eq_true]
theorem t_back (b : Bool) (l : List (Int × Int)) (s : List UInt8) : Rlaw09_UidsBack (tabK tbLt) b (rowsOf l) (bs s) = some (bv true) := by
  unfold Rlaw09_UidsBack
  rw [show tabK tbLt f_law09_alive [] = some (bv true) from rfl]
  simp only [optK_s, asBool_v, Bool.not_true, br_f]
  have hl3 : (((rowsOf l).length : Nat) : Int) = (l.length : Int) := by rw [rowsOf_len]
  rw [hl3, bs_size]
  by_cases hl : (l.length : Int) > 200
  · rw [br_yesD hl]; rfl
  · rw [br_noD hl]
    simp only [optK_s, asBool_v]
    by_cases hs : (s.length : Int) > 3000
    · rw [br_yesD hs]
    · rw [br_noD hs, kPrint (T := tbLt) (f := f_uids_Print) rfl (by omega)]
      simp only [optK_s]
      have tail : (optK (tabK tbLt f_uids_Parse [sv (bs s)]) fun wv17 =>
            Ab.asTup wv17 2 fun wg18 =>
            Ab.asLst (wg18 0) 2 fun wb19 wr19 =>
            Ab.asInt (wg18 1) .i64 fun wn20 =>
            br (wn20 != 0)
              (some (bv (((wr19.length : Nat) : Int) == 0)))
              (optK (tabK tbLt f_uids_Print [AV.lst 2 wb19 wr19]) fun wv21 =>
              Ab.asTup wv21 2 fun wg22 =>
              Ab.asStr (wg22 0) fun ws23 =>
              Ab.asInt (wg22 1) .i64 fun wn24 =>
              optK (br (wn24 == 0)
                  (some (bv (strEq ws23 (bs s))))
                  (some (bv false))) fun wv25 =>
              Ab.asBool wv25 fun wb26 =>
              some (bv wb26))) = some (bv true) := by
        rw [kParse (T := tbLt) (f := f_uids_Parse) rfl (by omega)]
        rcases parse_cases s with ⟨e, he, h⟩ | ⟨m, h, hr, hp⟩
        · rw [h]
          simp only [optK_s, asTup_p, List.getD_cons_zero, List.getD_cons_succ, asLst_2, asInt_v]
          rw [br_pos (by simpa using he)]
          rfl
        · have hm := (rightV_iff.1 hr).2.1
          rw [h]
          simp only [optK_s, asTup_p, List.getD_cons_zero, List.getD_cons_succ, asLst_2, asInt_v]
          rw [br_neg (by rfl), kPrint (T := tbLt) (f := f_uids_Print) rfl (by omega)]
          unfold prV
          rw [hr]
          simp only [optK_s, asTup_p, List.getD_cons_zero, List.getD_cons_succ, asStr_v, asInt_v]
          rw [hp, strEq_bs]
          simp [br, optK, asBool_v]
      cases hr : rightV l with
      | false =>
        unfold prV
        rw [hr]
        simp only [asTup_p, List.getD_cons_zero, List.getD_cons_succ, asStr_v, asInt_v]
        rw [br_neg (by rfl)]
        exact tail
      | true =>
        obtain ⟨q1, q2, q3⟩ := rightV_iff.1 hr
        have hlen := print_len q3
        unfold prV
        rw [hr]
        simp only [asTup_p, List.getD_cons_zero, List.getD_cons_succ, asStr_v, asInt_v]
        rw [br_pos (by rfl), kParse (T := tbLt) (f := f_uids_Parse) rfl (by omega), parse_print hr]
        simp only [optK_s, asTup_p, List.getD_cons_zero, List.getD_cons_succ, asLst_2, asInt_v]
        rw [br_neg (show ((0 : Int) != 0) = false from rfl), kSame (T := tbLt) rfl (by omega)]
        simp only [optK_s, asBool_v, decide_true, Bool.not_true, br_f]
        exact tail
end Go.Proofs.YtckbjhmiopjlkaaDoor
