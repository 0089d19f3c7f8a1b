import Derived.Test.YtphbfkncimifoaaDoorTokG
set_option linter.unusedVariables false
set_option linter.unusedSimpArgs false
set_option maxRecDepth 100000
namespace Go.Proofs.YtphbfkncimifoaaDoor
/- May a reader be: both; the reference's Feed. -/
open Go Go.Ab

/-! texts that are too long -/
def longB (p : List UInt8) : Bool := decide (2000 < p.length)
noncomputable abbrev E_R1 := callF X f_token_Right_1 encS1 (fun _ => True) fun s => bv (longB s)
theorem k_R1 {T : Tab} (hT : tabK T f_token_Right_1 = E_R1) (s : List UInt8) : tabK T f_token_Right_1 [sv (bs s)] = some (bv (longB s)) := by
  rw [hT]
  exact callF_eq (g := f_token_Right_1) (enc := encS1) (P := fun _ => True) (f := fun s => bv (longB s)) (fun a h => pctoken_Right_1 ok_nil (by
    unfold Rtoken_Right_1 longB
    rw [bs_size]
    congr 2
    rw [decide_eq_decide]
    omega)) (fun a b h => by rw [encS1_inj h]) (a := s) trivial
structure LX where
  n : Bool
  l : List (List UInt8)
  j : Nat
def encIx (a : LX) : Sslices_IndexFunc__long_0 := .s0 a.n (svL a.l) a.l.length a.j
abbrev PIx (a : LX) : Prop := a.j ≤ a.l.length ∧ a.l.length ≤ 1000000000
abbrev QIx (a : LX) (o : Oslices_IndexFunc__long_0) : Prop := match (a.l.drop a.j).any longB with
  | true => ∃ k : Int, o = .x0 k ∧ 0 ≤ k
  | false => o = .x1
theorem encIx_inj {a b : LX} (h : encIx a = encIx b) : a = b := by
  obtain ⟨n, l, j⟩ := a
  obtain ⟨n', l', j'⟩ := b
  simp [encIx, svL_inj_iff] at h
  obtain ⟨rfl, rfl, _, h⟩ := h
  have : j = j' := by omega
  rw [this]
noncomputable def tbR1 : Tab := [(f_token_Right_1, E_R1)]
theorem tbR1_ok : TabOk X tbR1 := tab_cons callQ_ok tab_nil
theorem l_Ix {a : LX} (h : PIx a) : ∃ o, QIx a o ∧ loopQ (Rslices_IndexFunc__long_0 (tabK tbR1) some) encIx PIx QIx (encIx a) = some o := by
  refine loopQ_eq (fun a => a.l.length - a.j) ?_ (fun a b h o ho => by rw [encIx_inj h]; exact ho) h
  rintro ⟨n, l, j⟩ rec ⟨h1, h2⟩ hrec
  simp only [] at h1 h2 hrec
  simp only [encIx]
  simp only [Rslices_IndexFunc__long_0, svL_len]
  by_cases hj : j < l.length
  · rw [br_yesD (by omega), br_yesD (by omega), br_yesD (by omega), Int.toNat_natCast, svL_get l j hj]
    simp only [optK_s, asStr_v, k_R1 (T := tbR1) rfl, asBool_v, QIx]
    rw [List.drop_eq_getElem_cons hj, List.any_cons]
    cases hc : longB l[j] with
    | true => exact ⟨_, ⟨j, rfl, by omega⟩, rfl⟩
    | false =>
      rw [br_f, w64_id (by omega) (by omega), show (j : Int) + 1 = ((j + 1 : Nat) : Int) by omega, Bool.false_or]
      exact hrec ⟨n, l, j + 1⟩ ⟨hj, h2⟩ (by simp only []; omega)
  · rw [br_noD (by omega)]
    simp only [QIx, List.drop_of_length_le (show l.length ≤ j by omega), List.any_nil]
    exact ⟨_, rfl, rfl⟩
abbrev encCF (a : Bool × List (List UInt8)) : List AV := [.lst 1 a.1 (svL a.2), .fn (.func 20) [] []]
theorem encCF_inj {a b : Bool × List (List UInt8)} (h : encCF a = encCF b) : a = b := by
  obtain ⟨n, l⟩ := a
  obtain ⟨n', l'⟩ := b
  simp [encCF, svL_inj_iff] at h
  obtain ⟨rfl, rfl⟩ := h
  rfl
noncomputable abbrev E_Idx := callQ X f_slices_IndexFunc_string_string encCF (fun a => a.2.length ≤ 1000000000) fun a v => ∃ k : Int, v = iv k ∧ (0 ≤ k ↔ a.2.any longB = true)
theorem k_Idx {T : Tab} (hT : tabK T f_slices_IndexFunc_string_string = E_Idx) (n : Bool) (l : List (List UInt8)) (hl : l.length ≤ 1000000000) : ∃ k : Int, tabK T f_slices_IndexFunc_string_string [.lst 1 n (svL l), .fn (.func 20) [] []] = some (iv k) ∧ (0 ≤ k ↔ l.any longB = true) := by
  rw [hT]
  obtain ⟨v, ⟨k, hv, hk⟩, h⟩ := callQ_eq (X := X) (g := f_slices_IndexFunc_string_string) (enc := encCF) (P := fun a => a.2.length ≤ 1000000000) (Q := fun a v => ∃ k : Int, v = iv k ∧ (0 ≤ k ↔ a.2.any longB = true)) (fun a ha => by
    obtain ⟨n, l⟩ := a
    obtain ⟨o, ho, hl⟩ := l_Ix (a := ⟨n, l, 0⟩) ⟨by simp, ha⟩
    have key : ∀ v, Rslices_IndexFunc__long (tabK tbR1) (loopQ (Rslices_IndexFunc__long_0 (tabK tbR1) some) encIx PIx QIx) n (svL l) = some v → PureCall X f_slices_IndexFunc_string_string (encCF (n, l)) v := fun v hv => pcslices_IndexFunc__long (tab_ok _ tbR1_ok) loopQ_ok hv
    unfold Rslices_IndexFunc__long at key
    rw [svL_len] at key
    simp only [encIx] at hl
    rw [show ((0 : Nat) : Int) = 0 from rfl] at hl
    rw [hl] at key
    simp only [optK_s] at key
    simp only [QIx, List.drop_zero] at ho
    cases hc : l.any longB with
    | true =>
      rw [hc] at ho
      obtain ⟨k, rfl, hk⟩ := ho
      exact ⟨iv k, ⟨k, rfl, by simp [hk, hc]⟩, key _ rfl⟩
    | false =>
      rw [hc] at ho
      have ho : o = .x1 := ho
      subst ho
      exact ⟨iv (-1), ⟨-1, rfl, by simp [hc]⟩, key _ rfl⟩) (fun a b h v hv => by rw [encCF_inj h]; exact hv) (a := (n, l)) hl
  exact ⟨k, by rw [← hv]; exact h, hk⟩
noncomputable def tbIx : Tab := [(f_slices_IndexFunc_string_string, E_Idx)]
theorem tbIx_ok : TabOk X tbIx := tab_cons callQ_ok tab_nil
noncomputable abbrev E_CF := callF X f_slices_ContainsFunc_string_string encCF (fun a => a.2.length ≤ 1000000000) fun a => bv (a.2.any longB)
theorem k_CF {T : Tab} (hT : tabK T f_slices_ContainsFunc_string_string = E_CF) (n : Bool) (l : List (List UInt8)) (hl : l.length ≤ 1000000000) : tabK T f_slices_ContainsFunc_string_string [.lst 1 n (svL l), .fn (.func 20) [] []] = some (bv (l.any longB)) := by
  rw [hT]
  exact callF_eq (g := f_slices_ContainsFunc_string_string) (enc := encCF) (P := fun a => a.2.length ≤ 1000000000) (f := fun a => bv (a.2.any longB)) (fun a h => pcslices_ContainsFunc__long (tab_ok _ tbIx_ok) (by
    obtain ⟨k, h1, h2⟩ := k_Idx (T := tbIx) rfl a.1 a.2 h
    unfold Rslices_ContainsFunc__long
    rw [h1]
    simp only [optK_s, asInt_v]
    congr 2
    rw [Bool.eq_iff_iff, decide_eq_true_eq, ← h2]
    )) (fun a b h => by rw [encCF_inj h]) (a := (n, l)) hl

/-! Right -/
noncomputable def rightB (i : TIn) : Bool := @decide (RightI i) (Classical.propDecidable _)
theorem rightB_yes {i : TIn} (h : RightI i) : rightB i = true := by unfold rightB; exact @decide_eq_true _ (Classical.propDecidable _) h
theorem rightB_no {i : TIn} (h : ¬ RightI i) : rightB i = false := by unfold rightB; exact @decide_eq_false _ (Classical.propDecidable _) h
theorem rightB_iff {i : TIn} : rightB i = true ↔ RightI i := ⟨fun h => Classical.byContradiction fun hn => (by rw [rightB_no hn] at h; cases h), rightB_yes⟩
/-- The same, piece by piece. -/
def rightC (i : TIn) : Bool := !(decide (8 < i.ps.length) || i.ps.any longB) &&
  ((i.mode == 0 && (i.need == 0 && (decide (i.text.length ≤ 400) && i.ps.length % 2 == 0))) ||
   (i.mode == 1 && (decide (1 ≤ i.need) && (decide (i.need ≤ 2000) && (decide ((i.text.length : Int) ≤ 2000 - i.need) && i.ps.length % 2 == 1)))) ||
   ((i.mode == 2 || i.mode == 4) && (i.need == 0 && (i.text == [] && i.ps.length == 0))) ||
   (i.mode == 3 && (decide (1 ≤ i.need) && (decide (i.need ≤ 10000000000) && (i.text == [] && i.ps.length == 0)))))
theorem any_long (l : List (List UInt8)) : l.any longB = false ↔ ∀ p ∈ l, p.length ≤ 2000 := by
  rw [List.any_eq_false]
  simp only [longB, decide_eq_true_eq, Nat.not_lt]
theorem right_C (i : TIn) : rightB i = rightC i := by
  rw [Bool.eq_iff_iff, rightB_iff]
  unfold RightI rightC
  simp only [Bool.and_eq_true, Bool.not_eq_true', Bool.or_eq_false_iff, decide_eq_false_iff_not, any_long, Bool.or_eq_true, beq_iff_eq, decide_eq_true_eq, List.length_eq_zero_iff, Nat.not_lt]
  constructor
  · rintro ⟨h1, h2, h⟩
    refine ⟨⟨h1, h2⟩, ?_⟩
    rcases h with ⟨a, b, c, d⟩ | ⟨a, b, c, d, e⟩ | ⟨a, b, c, d⟩ | ⟨a, b, c, d, e⟩
    · exact .inl (.inl (.inl ⟨a, b, c, d⟩))
    · exact .inl (.inl (.inr ⟨a, b, c, by omega, e⟩))
    · exact .inl (.inr ⟨a, b, c, d⟩)
    · exact .inr ⟨a, b, c, d, e⟩
  · rintro ⟨⟨h1, h2⟩, h⟩
    refine ⟨h1, h2, ?_⟩
    rcases h with ((⟨a, b, c, d⟩ | ⟨a, b, c, d, e⟩) | ⟨a, b, c, d⟩) | ⟨a, b, c, d, e⟩
    · exact .inl ⟨a, b, c, d⟩
    · exact .inr (.inl ⟨a, b, c, by omega, e⟩)
    · exact .inr (.inr (.inl ⟨a, b, c, d⟩))
    · exact .inr (.inr (.inr ⟨a, b, c, d, e⟩))
noncomputable def tbCF : Tab := [(f_slices_ContainsFunc_string_string, E_CF)]
theorem tbCF_ok : TabOk X tbCF := tab_cons callQ_ok tab_nil
theorem nat_mod2 (n k : Nat) : (((n : Nat) : Int).tmod 2 == (k : Int)) = (n % 2 == k) := by
  rw [Bool.eq_iff_iff, beq_iff_eq, beq_iff_eq, Int.tmod_eq_emod_of_nonneg (by omega)]
  omega
theorem nat_is0 (n : Nat) : (((n : Nat) : Int) == 0) = (n == 0) := by
  rw [Bool.eq_iff_iff, beq_iff_eq, beq_iff_eq]
  omega
theorem t_tRight (n : Bool) (i : TIn) (hp : i.ps.length ≤ 1000000000) : Rtoken_Right (tabK tbCF) n (svL i.ps) (bs i.text) i.mode i.need = some (bv (rightB i)) := by
  rw [right_C]
  unfold Rtoken_Right rightC
  rw [k_CF rfl n i.ps hp, svL_len, bs_size, emp, strEq_bs]
  have e1 := nat_mod2 i.ps.length 0
  have e2 := nat_mod2 i.ps.length 1
  have e3 := nat_is0 i.ps.length
  rw [show ((0 : Nat) : Int) = 0 from rfl] at e1
  rw [show ((1 : Nat) : Int) = 1 from rfl] at e2
  rw [e1, e2, e3]
  simp only [optK_s, asBool_v, br_bv]
  have c1 : br (decide (((i.ps.length : Nat) : Int) > 8)) (some (bv true)) (some (bv (i.ps.any longB))) = some (bv (decide (8 < i.ps.length) || i.ps.any longB)) := by
    by_cases h : 8 < i.ps.length
    · rw [br_yesD (by omega), decide_eq_true h]; rfl
    · rw [br_noD (by omega), decide_eq_false h]; rfl
  rw [c1]
  simp only [optK_s, asBool_v]
  cases decide (8 < i.ps.length) || i.ps.any longB with
  | true => rfl
  | false =>
    rw [br_f, Bool.not_false, Bool.true_and]
    by_cases m0 : i.mode = 0
    · rw [m0]
      have : decide (((i.text.length : Nat) : Int) ≤ 400) = decide (i.text.length ≤ 400) := by rw [decide_eq_decide]; omega
      rw [br_pos (by rfl), this]
      simp
    · rw [br_neg (by simpa using m0), show (i.mode == 0) = false by simpa using m0]
      by_cases m1 : i.mode = 1
      · rw [m1, br_pos (by rfl)]
        by_cases h1 : 1 ≤ i.need
        · by_cases h2 : i.need ≤ 2000
          · rw [w64_id (n := 2000 - i.need) (by omega) (by omega), decide_eq_true (show i.need ≥ 1 from h1)]
            simp
          · simp [h2]
        · have h1' : ¬ i.need ≥ 1 := h1
          simp [h1']
      · rw [br_neg (by simpa using m1), show (i.mode == 1) = false by simpa using m1]
        by_cases m2 : i.mode = 2
        · rw [m2, br_pos (by rfl), br_pos (by rfl)]
          simp
        · rw [br_neg (by simpa using m2), show (i.mode == 2) = false by simpa using m2]
          by_cases m4 : i.mode = 4
          · rw [m4, br_pos (by rfl)]
            simp
          · rw [br_neg (by simpa using m4), show (i.mode == 4) = false by simpa using m4]
            by_cases m3 : i.mode = 3
            · rw [m3]
              simp
            · rw [show (i.mode == 3) = false by simpa using m3]
              rfl
abbrev encI (a : Bool × TIn) : List AV := [a.2.av a.1]
theorem encI_inj {a b : Bool × TIn} (h : encI a = encI b) : a = b := by
  obtain ⟨n, i⟩ := a
  obtain ⟨n', i'⟩ := b
  simp only [encI, List.cons.injEq, and_true] at h
  obtain ⟨rfl, rfl⟩ := av_inj h
  rfl
noncomputable abbrev E_tRight := callF X f_token_Right encI (fun a => a.2.ps.length ≤ 1000000000) fun a => bv (rightB a.2)
theorem k_tRight {T : Tab} (hT : tabK T f_token_Right = E_tRight) (n : Bool) (i : TIn) (h : i.ps.length ≤ 1000000000) : tabK T f_token_Right [i.av n] = some (bv (rightB i)) := by
  rw [hT]
  exact callF_eq (g := f_token_Right) (enc := encI) (P := fun a => a.2.ps.length ≤ 1000000000) (f := fun a => bv (rightB a.2)) (fun a h => pctoken_Right (tab_ok _ tbCF_ok) (t_tRight a.1 a.2 h)) (fun a b h => by rw [encI_inj h]) (a := (n, i)) h

/-! the reference's Right -/
structure RX where
  m : Int
  j : Nat
  n : Bool
  i : TIn
def encRx (a : RX) : Sref23_Right_0 := .s0 a.i.ps.length a.j a.n (svL a.i.ps) (bs a.i.text) a.i.mode a.i.need
abbrev PRx (a : RX) : Prop := a.j ≤ a.i.ps.length ∧ a.j ≤ 9
abbrev QRx (a : RX) (o : Oref23_Right_0) : Prop := match ((a.i.ps.take 9).drop a.j).any longB with
  | true => ∃ a1 a2 a3 a4 a5 a6, o = .x0 false a1 a2 a3 a4 a5 a6
  | false => o = .x1 a.i.ps.length a.n (svL a.i.ps) (bs a.i.text) a.i.mode a.i.need
theorem encRx_inj {a b : RX} (h : encRx a = encRx b) : a.j = b.j ∧ a.n = b.n ∧ a.i = b.i := by
  obtain ⟨m, j, n, ⟨ps, t, mo, ne⟩⟩ := a
  obtain ⟨m', j', n', ⟨ps', t', mo', ne'⟩⟩ := b
  simp [encRx, svL_inj_iff, bs_inj_iff] at h
  obtain ⟨_, h2, rfl, rfl, rfl, rfl, rfl⟩ := h
  exact ⟨by show j = j'; omega, rfl, rfl⟩
theorem l_Rx (K : PureK) {a : RX} (h : PRx a) : ∃ o, QRx a o ∧ loopQ (Rref23_Right_0 K some) encRx PRx QRx (encRx a) = some o := by
  refine loopQ_eq (fun a => a.i.ps.length - a.j) ?_ (fun a b h o ho => by
    obtain ⟨h1, h2, h3⟩ := encRx_inj h
    unfold QRx at ho ⊢
    rw [h1, h2, h3]
    exact ho) h
  rintro ⟨m, j, n, i⟩ rec ⟨h1, h2⟩ hrec
  simp only [] at h1 h2 hrec
  simp only [encRx]
  simp only [Rref23_Right_0, svL_len]
  have hc : br (decide ((j : Int) < (i.ps.length : Nat))) (some (bv (decide ((j : Int) < 9)))) (some (bv false)) = some (bv (decide (j < (i.ps.take 9).length))) := by
    by_cases h : j < i.ps.length
    · rw [br_yesD (by omega)]
      congr 2
      rw [decide_eq_decide, List.length_take]
      omega
    · rw [br_noD (by omega), decide_eq_false (by rw [List.length_take]; omega)]
  rw [hc]
  simp only [optK_s, asBool_v]
  by_cases hj : j < (i.ps.take 9).length
  · have hj2 : j < i.ps.length := by rw [List.length_take] at hj; omega
    have hj9 : j < 9 := by rw [List.length_take] at hj; omega
    rw [decide_eq_true hj, br_t, br_yesD (by omega), br_yesD (by omega), Int.toNat_natCast, svL_get i.ps j hj2]
    simp only [optK_s, asStr_v, bs_size, QRx]
    rw [List.drop_eq_getElem_cons hj, List.any_cons, List.getElem_take]
    by_cases hl : 2000 < i.ps[j].length
    · rw [br_yesD (by omega), show longB i.ps[j] = true from decide_eq_true hl]
      exact ⟨_, ⟨_, _, _, _, _, _, rfl⟩, rfl⟩
    · rw [br_noD (by omega), show longB i.ps[j] = false from decide_eq_false hl, w64_id (by omega) (by omega), show (j : Int) + 1 = ((j + 1 : Nat) : Int) by omega, Bool.false_or]
      exact hrec ⟨m, j + 1, n, i⟩ ⟨hj2, by simp only []; omega⟩ (by simp only []; omega)
  · rw [decide_eq_false hj, br_f]
    simp only [QRx, List.drop_of_length_le (show (i.ps.take 9).length ≤ j by omega), List.any_nil]
    exact ⟨_, rfl, rfl⟩
theorem t_rRight (K : PureK) (n : Bool) (i : TIn) (hp : i.ps.length ≤ 1000000) (ht : i.text.length ≤ 1000000) : Rref23_Right K (loopQ (Rref23_Right_0 K some) encRx PRx QRx) n (svL i.ps) (bs i.text) i.mode i.need = some (bv (rightB i)) := by
  rw [right_C]
  unfold Rref23_Right rightC
  obtain ⟨o, ho, hl⟩ := l_Rx K (a := ⟨0, 0, n, i⟩) ⟨by simp, by simp⟩
  simp only [encRx] at hl
  rw [show ((0 : Nat) : Int) = 0 from rfl] at hl
  rw [svL_len, hl]
  simp only [optK_s]
  simp only [QRx, List.drop_zero] at ho
  cases hc : (i.ps.take 9).any longB with
  | true =>
    rw [hc] at ho
    obtain ⟨a1, a2, a3, a4, a5, a6, rfl⟩ := ho
    have : i.ps.any longB = true := by
      rw [List.any_eq_true] at hc ⊢
      obtain ⟨x, hx, hl⟩ := hc
      exact ⟨x, List.mem_of_mem_take hx, hl⟩
    simp only [Oref23_Right_0.k, this, Bool.or_true, Bool.not_true, Bool.false_and]
  | false =>
    rw [hc] at ho
    have ho : o = .x1 i.ps.length n (svL i.ps) (bs i.text) i.mode i.need := ho
    subst ho
    simp only [Oref23_Right_0.k, bs_size, emp, strEq_bs]
    have e1 := nat_mod2 i.ps.length 0
    have e2 := nat_mod2 i.ps.length 1
    have e3 := nat_is0 i.ps.length
    rw [show ((0 : Nat) : Int) = 0 from rfl] at e1
    rw [show ((1 : Nat) : Int) = 1 from rfl] at e2
    rw [e1, e2, e3]
    simp only [br_bv, optK_s, asBool_v]
    have hany : i.ps.length ≤ 8 → i.ps.any longB = false := fun h => by rw [← hc, List.take_of_length_le (by omega)]
    have h8 : decide (((i.ps.length : Nat) : Int) ≤ 8) = decide (i.ps.length ≤ 8) := by rw [decide_eq_decide]; omega
    by_cases hlen : i.ps.length ≤ 8
    · rw [hany hlen, decide_eq_false (show ¬ 8 < i.ps.length by omega), h8, decide_eq_true hlen]
      rw [Bool.or_false, Bool.not_false, Bool.true_and]
      by_cases m0 : i.mode = 0
      · rw [m0]
        have : decide (((i.text.length : Nat) : Int) ≤ 400) = decide (i.text.length ≤ 400) := by rw [decide_eq_decide]; omega
        rw [br_pos (by rfl), this]
        simp
      · rw [br_neg (by simpa using m0), show (i.mode == 0) = false by simpa using m0]
        by_cases m1 : i.mode = 1
        · rw [m1, br_pos (by rfl)]
          by_cases h1 : 1 ≤ i.need
          · by_cases h2 : i.need ≤ 2000
            · have hw : decide (w64 (((i.text.length : Nat) : Int) + i.need) ≤ 2000) = decide (((i.text.length : Nat) : Int) ≤ 2000 - i.need) := by
                rw [w64_id (by omega) (by omega), decide_eq_decide]
                omega
              rw [hw, decide_eq_true (show i.need ≥ 1 from h1)]
              have h7 : (decide (((i.ps.length : Nat) : Int) ≤ 7) && i.ps.length % 2 == 1) = (i.ps.length % 2 == 1) := by
                rw [Bool.eq_iff_iff, Bool.and_eq_true, decide_eq_true_eq, beq_iff_eq]
                omega
              rw [h7]
              simp
            · simp [h2]
          · have h1' : ¬ i.need ≥ 1 := h1
            simp [h1']
        · rw [br_neg (by simpa using m1), show (i.mode == 1) = false by simpa using m1]
          by_cases m2 : i.mode = 2
          · rw [m2, br_pos (by rfl), br_pos (by rfl)]
            simp
          · rw [br_neg (by simpa using m2), show (i.mode == 2) = false by simpa using m2]
            by_cases m4 : i.mode = 4
            · rw [m4, br_pos (by rfl)]
              simp
            · rw [br_neg (by simpa using m4), show (i.mode == 4) = false by simpa using m4]
              by_cases m3 : i.mode = 3
              · rw [m3]
                simp
              · rw [show (i.mode == 3) = false by simpa using m3]
                rfl
    · have h0 : (i.ps.length == 0) = false := by simp; intro h; rw [h] at hlen; simp at hlen
      have h7 : decide (((i.ps.length : Nat) : Int) ≤ 7) = false := by rw [decide_eq_false_iff_not]; omega
      rw [decide_eq_true (show 8 < i.ps.length by omega), h8, decide_eq_false hlen, h7, h0]
      simp only [Bool.true_or, Bool.not_true, Bool.false_and, Bool.and_false]
      cases i.mode == 0 <;> cases i.mode == 1 <;> cases i.mode == 2 <;> cases i.mode == 3 <;> cases i.mode == 4 <;> rfl
noncomputable abbrev E_rRight := callF X f_ref23_Right encI (fun a => a.2.ps.length ≤ 1000000 ∧ a.2.text.length ≤ 1000000) fun a => bv (rightB a.2)
theorem k_rRight {T : Tab} (hT : tabK T f_ref23_Right = E_rRight) (n : Bool) (i : TIn) (h : i.ps.length ≤ 1000000) (h2 : i.text.length ≤ 1000000) : tabK T f_ref23_Right [i.av n] = some (bv (rightB i)) := by
  rw [hT]
  exact callF_eq (g := f_ref23_Right) (enc := encI) (P := fun a => a.2.ps.length ≤ 1000000 ∧ a.2.text.length ≤ 1000000) (f := fun a => bv (rightB a.2)) (fun a h => pcref23_Right ok_nil loopQ_ok (t_rRight _ a.1 a.2 h.1 h.2)) (fun a b h => by rw [encI_inj h]) (a := (n, i)) ⟨h, h2⟩

/-! Feed -/
noncomputable def tbRF : Tab := [(f_ref23_Right, E_rRight), (f_ref23_one, E_one)]
theorem tbRF_ok : TabOk X tbRF := tab_cons callQ_ok (tab_cons callQ_ok tab_nil)
/-- What either Feed answers. -/
noncomputable def feedR (i : TIn) (b : List UInt8) : TIn × List TOut := match rightB i with
  | true => feedS i b
  | false => (i, [])
abbrev encF (a : Bool × TIn × Bool × List UInt8) : List AV := [a.2.1.av a.1, .lst 1 a.2.2.1 (uvs a.2.2.2)]
theorem encF_inj {a b : Bool × TIn × Bool × List UInt8} (h : encF a = encF b) : a = b := by
  obtain ⟨n, i, m, l⟩ := a
  obtain ⟨n', i', m', l'⟩ := b
  simp only [encF, List.cons.injEq, AV.lst.injEq, true_and, and_true] at h
  obtain ⟨h1, rfl, h2⟩ := h
  obtain ⟨rfl, rfl⟩ := av_inj h1
  rw [uvs_inj h2]
abbrev PF (a : Bool × TIn × Bool × List UInt8) : Prop := a.2.1.ps.length ≤ 1000000 ∧ a.2.1.text.length ≤ 1000000 ∧ a.2.2.2.length ≤ 1000000
theorem t_rFeed (n : Bool) (i : TIn) (m : Bool) (b : List UInt8) (hp : i.ps.length ≤ 1000000) (ht : i.text.length ≤ 1000000) (hb : b.length ≤ 1000000) : ∃ v, QR (feedR i b) v ∧ Rref23_Feed (tabK tbRF) (loopQ (Rref23_Feed_0 (tabK tbF) some) encRF PRF QRF) n (svL i.ps) (bs i.text) i.mode i.need m (uvs b) = some v := by
  unfold Rref23_Feed feedR
  have hr : tabK tbRF f_ref23_Right [AV.agg [AV.lst 1 n (svL i.ps), sv (bs i.text), iv i.mode, iv i.need]] = _ := k_rRight (T := tbRF) rfl n i hp ht
  rw [hr]
  simp only [optK_s, asBool_v]
  cases h : rightB i with
  | false => exact ⟨_, ⟨n, rfl⟩, rfl⟩
  | true =>
    obtain ⟨o, ⟨k, hk⟩, hl⟩ := l_RF (a := ⟨m, b, 0, n, i, (bs [], 0, 0), none⟩) ⟨by simp, hb, rightB_iff.1 h, by simp [RF.outs], fun j l h => by cases h⟩
    simp only [encRF] at hl
    rw [show ((0 : Nat) : Int) = 0 from rfl] at hl
    rw [Bool.not_true, br_f, emp, hl]
    simp only [optK_s]
    simp only [List.drop_zero, RF.outs, List.nil_append] at hk
    exact ⟨_, ⟨k, rfl⟩, by rw [← hk]; cases o <;> rfl⟩
end Go.Proofs.YtphbfkncimifoaaDoor
