import Derived.Test.YtmiffikcnkgcpaaDoorDateE
set_option linter.unusedVariables false
set_option linter.unusedSimpArgs false
set_option maxRecDepth 100000
namespace Go.Proofs.YtmiffikcnkgcpaaDoor
/- Printing of dates. -/
open Go Go.Ab

def domL (d : Int) : List UInt8 := if d < 10 then [32, digU d] else twoL d
/-- A time's text. -/
def printL (t : Int) : List UInt8 :=
  domL (civI (t / 86400)).2.2 ++ [45] ++ nameAt ((civI (t / 86400)).2.1 - 1) ++ [45] ++ twoL ((civI (t / 86400)).1 / 100) ++ twoL ((civI (t / 86400)).1 % 100) ++ [32] ++ twoL (t % 86400 / 3600) ++ [58] ++ twoL (t % 86400 / 60 % 60) ++ [58] ++ twoL (t % 86400 % 60) ++ [32, 43, 48, 48, 48, 48]
def tbR : Tab := [(f_date_Day, e_Day), (f_date_Civil, e16), (f_date_two, e_two)]
theorem tbR_ok : TabOk X tbR := tab_cons e_Day_ok (tab_cons e16_ok (tab_cons e_two_ok tab_nil))
theorem kR_Day {t : Int} (h : t ≤ 9000000000000000000) : tabK tbR f_date_Day [iv t] = some (iv (dayI t)) := br_yesD h
theorem kR_Civil {d : Int} : tabK tbR f_date_Civil [iv d] = some (triple (civI d)) := rfl
theorem kR_two {n : Int} (h : 0 ≤ n ∧ n ≤ 1000000) : tabK tbR f_date_two [iv n] = some (sv (bs (twoL n))) := br_yesD h
theorem gl_names_get {i : Int} (h0 : 0 ≤ i) (h : i < 12) : gl_date_names[0 + i.toNat * 1]? = some (sv (bs (nameAt i))) := by
  rw [Nat.zero_add]; exact namesV_get h0 h
theorem twoL_len (n : Int) : (twoL n).length = 2 := rfl
theorem lit1 (a : UInt8) : ({ data := #[a] } : ByteArray) = bs [a] := rfl
theorem lit6 : ({ data := #[32, 43, 48, 48, 48, 48] } : ByteArray) = bs [32, 43, 48, 48, 48, 48] := rfl

theorem t_Print (t : Int) (h9 : t ≤ 9000000000000000000) (hc : 0 ≤ t → t ≤ 253402300799 → 1 ≤ (civI (t / 86400)).2.1 ∧ (civI (t / 86400)).2.1 ≤ 12 ∧ 1 ≤ (civI (t / 86400)).2.2 ∧ (civI (t / 86400)).2.2 ≤ 31 ∧ 1970 ≤ (civI (t / 86400)).1 ∧ (civI (t / 86400)).1 ≤ 9999) :
    Rdate_Print (tabK tbR) t = some (if t < 0 ∨ t > 253402300799 then .tup [sv (bs []), iv 15] else .tup [sv (bs (printL t)), iv 0]) := by
  unfold Rdate_Print
  by_cases h0 : t < 0
  · rw [br_yesD h0, if_pos (.inl h0)]; rfl
  · rw [br_noD h0]
    simp only [optK_s, asBool_v]
    by_cases h1 : t > 253402300799
    · rw [br_yesD h1, if_pos (.inr h1)]; rfl
    · rw [br_noD h1, if_neg (by omega), kR_Day h9]
      have hd : dayI t = t / 86400 := if_neg h0
      have hc := hc (by omega) (by omega)
      unfold printL
      rw [hd]
      simp only [optK_s, asInt_v]
      rw [kR_Civil]
      generalize civI (t / 86400) = ymd at hc ⊢
      obtain ⟨y, m, d⟩ := ymd
      simp only [] at hc ⊢
      unfold triple
      simp only [optK_s]
      rw [asTup_v _ 3 rfl]
      simp only [List.getD_cons_zero, List.getD_cons_succ, asInt_v]
      rw [kR_two (n := d) (by omega)]
      simp only [optK_s, asStr_v, lit1, lit6]
      have hn := nameAt_ok (i := m - 1) (by omega) (by omega)
      rw [tdivP (y := y) (by omega), tmodP (y := y) (by omega), tmodP (y := t) (by omega), tdivP (y := t % 86400) (by omega), tdivP (y := t % 86400) (by omega), tmodP (y := t % 86400) (by omega),
        w64_id (n := m - 1) (by omega) (by omega), w64_id (n := y / 100) (by omega) (by omega), w64_id (n := t % 86400 / 3600) (by omega) (by omega), w64_id (n := t % 86400 / 60) (by omega) (by omega), tmodP (by omega),
        gl_names_get (by omega) (by omega), kR_two (n := y / 100) (by omega), kR_two (n := y % 100) (by omega), kR_two (n := t % 86400 / 3600) (by omega), kR_two (n := t % 86400 / 60 % 60) (by omega), kR_two (n := t % 86400 % 60) (by omega)]
      simp only [optK_s, asStr_v, cut_from, bs_append, bs_size]
      have hm : ∀ n : Nat, n ≤ 1000 → n.ble maxStr = true := by
        intro n h
        rw [Nat.ble_eq]; exact Nat.le_trans h (by decide)
      unfold domL
      by_cases h10 : d < 10
      · rw [br_yesD h10, if_pos h10]
        rw [show List.drop (1 : Int).toNat (twoL d) = [digU d] from rfl]
        have e1 : ∀ {x : Option AV} {n : Nat}, n ≤ 1000 → br (n.ble maxStr) x none = x := fun h => br_pos (hm _ h)
        rw [br_yesD (by rw [twoL_len]; decide)]
        repeat (first | rw [e1 (by simp [twoL_len, hn.2])] | rw [br_yesD (p := 0 ≤ m - 1) (by omega)] | rw [br_yesD (p := m - 1 < 12) (by omega)])
        simp only [List.cons_append, List.nil_append]
      · rw [br_noD h10, if_neg h10]
        have e1 : ∀ {x : Option AV} {n : Nat}, n ≤ 1000 → br (n.ble maxStr) x none = x := fun h => br_pos (hm _ h)
        repeat (first | rw [e1 (by simp [twoL_len, hn.2])] | rw [br_yesD (p := 0 ≤ m - 1) (by omega)] | rw [br_yesD (p := m - 1 < 12) (by omega)])
end Go.Proofs.YtmiffikcnkgcpaaDoor
