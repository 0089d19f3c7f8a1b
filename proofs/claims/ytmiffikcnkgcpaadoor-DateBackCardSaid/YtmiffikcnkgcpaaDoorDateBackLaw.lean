import Derived.Test.YtmiffikcnkgcpaaDoorDateH
import Derived.Test.YtmiffikcnkgcpaaDoorToldLaw
import Derived.Test.YtmiffikcnkgcpaaDoorMemo
set_option linter.unusedVariables false
set_option linter.unusedSimpArgs false
set_option maxRecDepth 100000
namespace Go.Proofs.YtmiffikcnkgcpaaDoor
/- The law DateBack: whatever the times, true. -/
open Go Go.Ab

def e_alive : List AV → Option AV
  | [] => some (bv true)
  | _ => none
theorem e_alive_ok (xs : List AV) (v : AV) (h : e_alive xs = some v) : PureCall X f_law07_alive xs v := by
  unfold e_alive at h
  split at h
  · cases h; exact pc_alive
  · cases h
def tbL : Tab := [(f_law07_alive, e_alive), (f_date_Print, e_Print), (f_date_Parse, e_Parse), (f_date_Day, e_Day), (f_date_Civil, e16), (f_date_Number, e18)]
theorem tbL_ok : TabOk X tbL := tab_cons e_alive_ok (tab_cons e_Print_ok (tab_cons e_Parse_ok (tab_cons e_Day_ok (tab_cons e16_ok (tab_cons e18_ok tab_nil)))))
theorem kL_alive : tabK tbL f_law07_alive [] = some (bv true) := rfl
theorem kL_Print {t : Int} (h : t ≤ 9000000000000000000) : tabK tbL f_date_Print [iv t] = some (if t < 0 ∨ t > 253402300799 then .tup [sv (bs []), iv 15] else .tup [sv (bs (printL t)), iv 0]) := br_yesD h
theorem kL_Parse {l : List UInt8} (h : l.all asc = true) : tabK tbL f_date_Parse [sv (bs l)] = some (pairII (parseB l)) := by
  show br ((bs l).data.toList.all asc) (some (pairII (parseB (bs l).data.toList))) none = _
  rw [bs_list, br_pos h]
theorem kL_Day {t : Int} (h : t ≤ 9000000000000000000) : tabK tbL f_date_Day [iv t] = some (iv (dayI t)) := br_yesD h
theorem kL_Civil {d : Int} : tabK tbL f_date_Civil [iv d] = some (triple (civI d)) := rfl
theorem kL_Number {y m d : Int} : tabK tbL f_date_Number [iv y, iv m, iv d] = some (iv (numI y m d)) := rfl

theorem numI_civ {day y m d : Int} (h : Civil day y m d) (hy : 1970 ≤ y) (hy2 : y ≤ 9999) : numI y m d = day := by
  unfold numI
  rw [Civil_there h (by omega) hy2, decide_eq_false (by omega)]
  exact Civil_day h

theorem t_back (t u : Int) : Rlaw07_DateBack (tabK tbL) t u = some (bv true) := by
  unfold Rlaw07_DateBack
  simp only [and_mask]
  have ht0 : 0 ≤ t % 137438953472 := by omega
  have ht1 : t % 137438953472 < 137438953472 := by omega
  have hu0 : 0 ≤ u % 137438953472 := by omega
  have hu1 : u % 137438953472 < 137438953472 := by omega
  generalize t % 137438953472 = T at ht0 ht1 ⊢
  generalize u % 137438953472 = U at hu0 hu1 ⊢
  rw [kL_alive, kL_Print (by omega), kL_Day (by omega), kL_Day (by omega)]
  have hdT : dayI T = T / 86400 := if_neg (by omega)
  have hdU : dayI U = U / 86400 := if_neg (by omega)
  rw [hdT, hdU]
  simp only [optK_s, asBool_v, asInt_v, Bool.not_true, br_f]
  by_cases hT : T > 253402300799
  · omega
  · rw [if_neg (by omega), asTup_v _ 2 rfl]
    simp only [List.getD_cons_zero, List.getD_cons_succ, asInt_v, asStr_v]
    rw [kL_Parse (print_asc ht0 (by omega)), parse_print ht0 (by omega), kL_Civil]
    obtain ⟨hc, hy, hy2⟩ := civI_spec (day := T / 86400) (by omega) (by omega)
    obtain ⟨gc, gy, gy2⟩ := civI_spec (day := U / 86400) (by omega) (by omega)
    rw [show tabK tbL f_date_Civil [iv (U / 86400)] = some (triple (civI (U / 86400))) from rfl]
    generalize civI (T / 86400) = x at hc hy hy2 ⊢
    generalize civI (U / 86400) = z at gc gy gy2 ⊢
    obtain ⟨a, b, c⟩ := x
    obtain ⟨i, j, k⟩ := z
    simp only [] at hc hy hy2 gc gy gy2 ⊢
    unfold triple pairII
    simp only [optK_s]
    rw [br_neg (by decide), asTup_v _ 2 rfl]
    simp only [List.getD_cons_zero, List.getD_cons_succ, asInt_v]
    rw [asTup_v _ 3 rfl]
    simp only [List.getD_cons_zero, List.getD_cons_succ, asInt_v]
    rw [br_neg (by decide), br_neg (by simp), kL_Number, numI_civ hc hy hy2]
    simp only [optK_s, asInt_v, asBool_v, bne_self_eq_false, br_f]
    rw [br_noD (by omega), asTup_v _ 3 rfl]
    simp only [List.getD_cons_zero, List.getD_cons_succ, asInt_v]
    have e : (br (decide (a < i)) (some (bv true)) (br (a == i) (br (decide (b < j)) (some (bv true)) (br (b == j) (some (bv (decide (c < k)))) (some (bv false)))) (some (bv false))))
        = some (bv (decide (T / 86400 < U / 86400))) := by
      by_cases h1 : a < i
      · rw [br_yesD h1, decide_eq_true (Civil_lt hc gc (by omega) (.inl h1))]
      · rw [br_noD h1]
        by_cases h2 : a = i
        · subst h2
          rw [br_pos (by simp)]
          by_cases h3 : b < j
          · rw [br_yesD h3, decide_eq_true (Civil_lt hc gc (by omega) (.inr ⟨rfl, .inl h3⟩))]
          · rw [br_noD h3]
            by_cases h4 : b = j
            · subst h4
              rw [br_pos (by simp)]
              refine congrArg (fun b => some (bv b)) ?_
              have e1 := Civil_day hc
              have e2 := Civil_day gc
              rw [decide_eq_decide]
              omega
            · rw [br_neg (by simpa using h4), decide_eq_false]
              have := Civil_lt gc hc (by omega) (.inr ⟨rfl, .inl (by omega)⟩)
              omega
        · rw [br_neg (by simpa using h2), decide_eq_false]
          have := Civil_lt gc hc (by omega) (.inl (by omega))
          omega
    rw [e]
    simp only [optK_s, asBool_v, beq_self_eq_true]
end Go.Proofs.YtmiffikcnkgcpaaDoor
