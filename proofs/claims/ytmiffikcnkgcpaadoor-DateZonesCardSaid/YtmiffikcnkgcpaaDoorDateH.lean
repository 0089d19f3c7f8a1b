import Derived.Test.YtmiffikcnkgcpaaDoorDateG
set_option linter.unusedVariables false
set_option linter.unusedSimpArgs false
set_option maxRecDepth 100000
namespace Go.Proofs.YtmiffikcnkgcpaaDoor
/- The law DateBack, plain. -/
open Go Go.Ab

theorem civI_spec {day : Int} (h0 : 0 ≤ day) (h1 : day ≤ 2932896) : Civil day (civI day).1 (civI day).2.1 (civI day).2.2 ∧ 1970 ≤ (civI day).1 ∧ (civI day).1 ≤ 9999 := by
  unfold civI
  rw [if_neg (by omega)]
  refine ⟨civP_spec h0 h1, ?_⟩
  obtain ⟨a, b, c⟩ := start_ok h0 h1
  have hy := yearGo_spec day _ (1970 + day / 366) rfl a b c h1
  exact ⟨hy.1, hy.2.1⟩
theorem Civil_there {day y m d : Int} (h : Civil day y m d) (hy : 0 ≤ y) (hy2 : y ≤ 9999) : thereI y m d = true := by
  obtain ⟨_, _, _, _, _, _⟩ := h
  unfold thereI
  rw [decide_eq_true_eq]
  omega
theorem Civil_day {day y m d : Int} (h : Civil day y m d) : yday y + mday y m + d - 1 = day := by
  obtain ⟨_, _, _, _, _, _⟩ := h
  omega
theorem Civil_lt {day y m d day' y' m' d' : Int} (h : Civil day y m d) (h' : Civil day' y' m' d') (hy : 0 ≤ y) (hl : y < y' ∨ (y = y' ∧ (m < m' ∨ (m = m' ∧ d < d')))) : day < day' := by
  have i1 := h.inYear
  have i2 := h'.inYear
  have e1 := Civil_day h
  have e2 := Civil_day h'
  rcases hl with hl | ⟨rfl, hl | ⟨rfl, hl⟩⟩
  · have := yday_mono (a := y + 1) (b := y') (by omega) (by omega)
    omega
  · have h1 := mday_succ (y := y) h.m1 h.m2
    have h2 := mday_mono (y := y) (a := m + 1) (b := m') (by have := h.m1; omega) (by omega) (by have := h'.m2; omega)
    obtain ⟨_, _, _, _, _, _⟩ := h
    obtain ⟨_, _, _, _, _, _⟩ := h'
    omega
  · omega

theorem zone0 : zoneB [43, 48, 48, 48, 48] = (0, true) := by decide
theorem parse_print {t : Int} (h0 : 0 ≤ t) (h1 : t ≤ 253402300799) : parseB (printL t) = (t, 0) := by
  obtain ⟨hc, hy, hy2⟩ := civI_spec (day := t / 86400) (by omega) (by omega)
  unfold printL
  generalize civI (t / 86400) = x at hc hy hy2 ⊢
  obtain ⟨y, m, d⟩ := x
  simp only [] at hc hy hy2 ⊢
  have ht := Civil_there hc (by omega) hy2
  have hd := Civil_day hc
  obtain ⟨a, b, c, hn, na, nb, nc, _⟩ := name_form (j := m - 1) (by have := hc.m1; omega) (by have := hc.m2; omega)
  have hm : ∀ i : Int, 0 ≤ i → i < 12 → eqFold (nameAt i) [a, b, c] = decide (i = m - 1) := by
    intro i i0 i1
    rw [← hn]
    exact names_tell i (m - 1) i0 i1 (by have := hc.m1; omega) (by have := hc.m2; omega)
  have := parse_form (y := y) (m := m) (d := d) (h := t % 86400 / 3600) (i := t % 86400 / 60 % 60) (s := t % 86400 % 60) (z := 0) (by omega) hy2 hc.m1 hc.m2 ht hm na nb nc
    (by omega) (by omega) (by omega) (by omega) (by omega) (by omega) zone0
  rw [hn]
  simp only [List.append_assoc, List.cons_append, List.nil_append] at this ⊢
  rw [this, hd, if_neg (by omega)]
  refine congrArg (·, (0 : Int)) ?_
  omega

theorem print_asc {t : Int} (h0 : 0 ≤ t) (h1 : t ≤ 253402300799) : (printL t).all asc = true := by
  obtain ⟨hc, hy, hy2⟩ := civI_spec (day := t / 86400) (by omega) (by omega)
  unfold printL
  generalize civI (t / 86400) = x at hc hy hy2 ⊢
  obtain ⟨y, m, d⟩ := x
  simp only [] at hc hy hy2 ⊢
  have ht := there_day (Civil_there hc (by omega) hy2)
  obtain ⟨a, b, c, hn, _, _, _, na, nb, nc⟩ := name_form (j := m - 1) (by omega) (by omega)
  obtain ⟨p, q, hdom, _, _, _, hp, hq⟩ := dom_ok (d := d) (by omega) (by omega)
  have ha : ∀ n, asc (digU n) = true := by
    intro n
    have := digU_nat n
    simp only [asc, decide_eq_true_eq]
    omega
  rw [hn, hdom]
  simp [twoL, na, nb, nc, hp, hq, ha]
  decide

theorem and_mask (t : Int) : w64 ((((BitVec.ofInt 64 t &&& BitVec.ofInt 64 137438953471).toNat : Nat) : Int)) = t % 137438953472 := by
  have e : (BitVec.ofInt 64 t &&& BitVec.ofInt 64 137438953471).toNat = (t % 137438953472).toNat := by
    rw [BitVec.toNat_and]
    rw [show (BitVec.ofInt 64 137438953471).toNat = 2 ^ 37 - 1 from rfl, Nat.and_two_pow_sub_one_eq_mod, BitVec.toNat_ofInt]
    have : (t % ((2 ^ 64 : Nat) : Int)).toNat % 2 ^ 37 = (t % 137438953472).toNat := by
      have h1 : ((2 ^ 64 : Nat) : Int) = 18446744073709551616 := by decide
      rw [h1]
      have h2 : (2 : Nat) ^ 37 = 137438953472 := by decide
      rw [h2]
      omega
    exact this
  rw [e]
  have : ((t % 137438953472).toNat : Int) = t % 137438953472 := by omega
  rw [this, w64_id (by omega) (by omega)]

def e_Print : List AV → Option AV
  | [.v (.int .i64 t)] => br (decide (t ≤ 9000000000000000000)) (some (if t < 0 ∨ t > 253402300799 then .tup [sv (bs []), iv 15] else .tup [sv (bs (printL t)), iv 0])) none
  | _ => none
theorem e_Print_ok (xs : List AV) (v : AV) (h : e_Print xs = some v) : PureCall X f_date_Print xs v := by
  unfold e_Print at h
  split at h
  · rename_i t
    obtain ⟨h1, h2⟩ := br_yes h
    cases h2
    refine pcdate_Print (tab_ok _ tbR_ok) (t_Print t (of_decide_eq_true h1) fun h0 h1 => ?_)
    obtain ⟨hc, hy, hy2⟩ := civI_spec (day := t / 86400) (by omega) (by omega)
    have ht := there_day (Civil_there hc (by omega) hy2)
    exact ⟨hc.m1, hc.m2, ht.2.2.2.2.1, ht.2.2.2.2.2, hy, hy2⟩
  · cases h
end Go.Proofs.YtmiffikcnkgcpaaDoor
