import Derived.Test.YtphbfkncimifoaaDoorTokS
import Derived.Test.YtphbfkncimifoaaDoorToldK2
set_option linter.unusedVariables false
set_option linter.unusedSimpArgs false
set_option maxRecDepth 100000
namespace Go.Proofs.YtphbfkncimifoaaDoor
/- What the reference answers. -/
open Go Go.Ab

/-! with -/
abbrev encW (a : Bool × List (List UInt8) × List UInt8) : List AV := [.lst 1 a.1 (svL a.2.1), sv (bs a.2.2)]
theorem encW_inj {a b : Bool × List (List UInt8) × List UInt8} (h : encW a = encW b) : a = b := by
  obtain ⟨n, l, c⟩ := a
  obtain ⟨n', l', c'⟩ := b
  simp [encW, svL_inj_iff, bs_inj_iff] at h
  obtain ⟨⟨rfl, rfl⟩, rfl⟩ := h
  rfl
noncomputable abbrev E_with := callF X f_ref23_with encW (fun a => a.2.1.length ≤ 1000000) fun a => .lst 1 false (svL (a.2.1 ++ [a.2.2]))
theorem t_with (K : PureK) (n : Bool) (l : List (List UInt8)) (s : List UInt8) (hl : l.length ≤ 1000000) : Rref23_with K n (svL l) (bs s) = some (.lst 1 false (svL (l ++ [s]))) := by
  unfold Rref23_with
  rw [br_pos (lenOks_of (by omega) (by rw [svL_len]; omega)), br_pos (lenOks_of (by omega) (by simp only [List.nil_append, svL_len, List.length_singleton]; omega))]
  simp [svL]
theorem k_with {T : Tab} (hT : tabK T f_ref23_with = E_with) (n : Bool) (l : List (List UInt8)) (s : List UInt8) (hl : l.length ≤ 1000000) : tabK T f_ref23_with [.lst 1 n (svL l), sv (bs s)] = some (.lst 1 false (svL (l ++ [s]))) := by
  rw [hT]
  exact callF_eq (g := f_ref23_with) (enc := encW) (P := fun a => a.2.1.length ≤ 1000000) (f := fun a => .lst 1 false (svL (a.2.1 ++ [a.2.2]))) (fun a h => pcref23_with ok_nil (t_with (tabK []) a.1 a.2.1 a.2.2 h)) (fun a b h => by rw [encW_inj h]) (a := (n, l, s)) hl

/-! literal -/
abbrev encLt (a : List UInt8 × Int × Nat × Nat) : Sref23_literal_0 := .s0 (bs a.1) a.2.1 a.2.2.1 (10 ^ a.2.2.1) ((a.2.2.2 : Int) - 1)
def outLt (a : List UInt8 × Int × Nat × Nat) : Oref23_literal_0 := match refGo (a.1.take a.2.2.2).reverse a.2.1 a.2.2.1 with
  | some (b, m, ok) => .x0 (bs b) m ok
  | none => .x1
abbrev PLt (a : List UInt8 × Int × Nat × Nat) : Prop := a.2.2.2 ≤ a.1.length ∧ a.1.length ≤ 1000000000 ∧ a.2.2.1 ≤ 10 ∧ 0 ≤ a.2.1 ∧ a.2.1 < 10 ^ a.2.2.1
theorem encLt_inj {a b : List UInt8 × Int × Nat × Nat} (h : encLt a = encLt b) : a = b := by
  obtain ⟨l, n, k, j⟩ := a
  obtain ⟨l', n', k', j'⟩ := b
  simp [encLt, bs_inj_iff] at h
  obtain ⟨rfl, rfl, h1, _, h2⟩ := h
  have e1 : k = k' := by omega
  have e2 : j = j' := by omega
  rw [e1, e2]
theorem w8_idn {n : Int} (h1 : 0 ≤ n) (h2 : n < 256) : w8 n = n := by
  unfold w8 IntKind.wrap
  simp [IntKind.bits, IntKind.signed]
  omega
theorem l_Lt (K : PureK) {a : List UInt8 × Int × Nat × Nat} (h : PLt a) : loopF (Rref23_literal_0 K some) encLt PLt outLt (encLt a) = some (outLt a) := by
  refine loopF_eq (fun a => a.2.2.2) ?_ (fun a b h => by rw [encLt_inj h]) h
  rintro ⟨l, n, k, j⟩ rec ⟨h1, h2, h3, h4, h5⟩ hrec
  simp only [encLt, Rref23_literal_0, outLt] at h1 h2 h3 h4 h5 hrec ⊢
  cases j with
  | zero => rfl
  | succ i =>
    have hi : i < l.length := h1
    have hb : bt (bs l) ((i : Int)).toNat = (l[i].toNat : Int) := by rw [bt_bs, Int.toNat_natCast, List.getElem?_eq_getElem hi]; rfl
    have h8 := l[i].toNat_lt
    rw [show (((i + 1 : Nat) : Int) - 1) = (i : Int) by omega, List.take_succ_eq_append_getElem hi]
    simp only [List.reverse_append, List.reverse_singleton, List.singleton_append, refGo, hb, bs_size]
    rw [br_yesD (by omega), br_yesD (by omega), br_yesD (by omega)]
    by_cases hc : l[i] = 123
    · rw [br_pos (by rw [hc]; rfl), br_yesD (by omega), br_yesD (by omega), hc, cut_to]
      simp [bs_inj_iff]
      omega
    · have hc1 : (l[i] == 123) = false := by simpa using hc
      rw [br_neg (by simp; intro h; exact hc (UInt8.toNat_inj.1 (show l[i].toNat = 123 by omega))), hc1]
      simp only []
      have key : br (decide ((l[i].toNat : Int) < 48)) (some (bv true)) (br (decide (0 ≤ (i : Int))) (br (decide ((i : Int) < (l.length : Nat))) (br (decide ((l[i].toNat : Int) > 57)) (some (bv true)) (some (bv ((k : Int) == 10)))) none) none) = some (bv (!(isDig l[i] && decide (k < 10)))) := by
        unfold isDig
        by_cases a1 : (l[i].toNat : Int) < 48
        · rw [br_yesD a1, decide_eq_false (show ¬ 48 ≤ l[i].toNat by omega)]; rfl
        · rw [br_noD a1, br_yesD (by omega), br_yesD (by omega), decide_eq_true (show 48 ≤ l[i].toNat by omega)]
          by_cases a2 : (l[i].toNat : Int) > 57
          · rw [br_yesD a2, decide_eq_false (show ¬ l[i].toNat ≤ 57 by omega)]; rfl
          · rw [br_noD a2, decide_eq_true (show l[i].toNat ≤ 57 by omega)]
            by_cases a3 : k < 10
            · rw [show ((k : Int) == 10) = false by simp; omega, decide_eq_true a3]; rfl
            · rw [show ((k : Int) == 10) = true by simp; omega, decide_eq_false a3]; rfl
      rw [br_yesD (by omega), br_yesD (by omega), key]
      simp only [optK_s, asBool_v]
      cases hd : isDig l[i] && decide (k < 10) with
      | false => rfl
      | true =>
        simp only [Bool.and_eq_true, decide_eq_true_eq] at hd
        obtain ⟨d1, d2⟩ := dig_range hd.1
        obtain ⟨s1, s2⟩ := step_range hd.1 h4 h5
        have p1 := pow10 (k := k + 1) (by omega)
        have p0 := pow10 (k := k) (by omega)
        have p2 := pow10_pos k
        have e1 : 0 ≤ (10 : Int) ^ k * ((l[i].toNat : Int) - 48) := Int.mul_nonneg (by omega) (by omega)
        have e2 : (10 : Int) ^ k * ((l[i].toNat : Int) - 48) ≤ 10 ^ k * 9 := Int.mul_le_mul_of_nonneg_left (by omega) (by omega)
        rw [Bool.not_true, br_f, br_yesD (by omega), br_yesD (by omega), w8_idn (by omega) (by omega), w64_id (n := (l[i].toNat : Int) - 48) (by omega) (by omega), w64_id (n := 10 ^ k * ((l[i].toNat : Int) - 48)) (by omega) (by omega), w64_id (n := n + 10 ^ k * ((l[i].toNat : Int) - 48)) (by omega) (by omega), w64_id (n := (k : Int) + 1) (by omega) (by omega), w64_id (n := 10 ^ k * 10) (by omega) (by omega), w64_id (n := (i : Int) - 1) (by omega) (by omega)]
        have := hrec (l, n + 10 ^ k * ((l[i].toNat : Int) - 48), k + 1, i) ⟨by simp; omega, h2, by simp; omega, s1, s2⟩ (by simp)
        simp only [Int.pow_succ, show ((k + 1 : Nat) : Int) = (k : Int) + 1 by omega] at this
        exact this
/-- The reference's triple. -/
def litR (s : List UInt8) : List UInt8 × Int × Bool := match decide (3 ≤ s.length) && hasSuf s 125 with
  | true => match refGo s.dropLast.reverse 0 0 with
    | some t => t
    | none => ([], 0, false)
  | false => ([], 0, false)
theorem litR_lit (s : List UInt8) : litL s = match (litR s).2.2 with
    | true => some ((litR s).1, (litR s).2.1)
    | false => none := by
  unfold litL litR
  rcases List.eq_nil_or_concat s with rfl | ⟨l, x, rfl⟩
  · rfl
  · rw [List.concat_eq_append]
    simp only [List.reverse_append, List.reverse_singleton, List.singleton_append, List.length_append, List.length_singleton, List.dropLast_concat, hasSuf, List.getLast?_append, List.getLast?_singleton, Option.some_or]
    by_cases hx : x = 125
    · subst hx
      simp only [beq_self_eq_true, Bool.and_true]
      by_cases h3 : 3 ≤ l.length + 1
      · rw [decide_eq_true h3]
        simp only []
        cases hr : refGo l.reverse 0 0 with
        | none => rfl
        | some t =>
          obtain ⟨b, n, ok⟩ := t
          cases ok <;> rfl
      · rw [decide_eq_false h3]
        simp only []
        match l, h3 with
        | [], _ => rfl
        | [y], _ =>
          simp only [List.reverse_singleton, refGo]
          cases (y == 123) with
          | true => rfl
          | false => cases (isDig y && decide (0 < 10)) <;> rfl
        | y :: z :: t, h3 => simp at h3
    · rw [show (x == 125) = false by simpa using hx, show (some x == some (125 : UInt8)) = false by simpa using hx, Bool.and_false]
theorem t_rliteral (K : PureK) (s : List UInt8) (hl : s.length ≤ 1000000000) : Rref23_literal K (loopF (Rref23_literal_0 K some) encLt PLt outLt) (bs s) = some (.tup [sv (bs (litR s).1), iv (litR s).2.1, bv (litR s).2.2]) := by
  unfold Rref23_literal litR
  rw [bs_size]
  by_cases h3 : s.length < 3
  · rw [br_yesD (by omega), decide_eq_false (show ¬ 3 ≤ s.length by omega)]
    rfl
  · rw [br_noD (by omega), decide_eq_true (show 3 ≤ s.length by omega), w64_id (n := (s.length : Int) - 1) (by omega) (by omega), br_yesD (by omega), br_yesD (by omega)]
    have hne : s ≠ [] := by rintro rfl; simp at h3
    have hlast : hasSuf s 125 = (s[s.length - 1]?.getD 0 == 125) := by
      unfold hasSuf
      rw [List.getLast?_eq_getElem?]
      have : s.length - 1 < s.length := by omega
      simp [this]
    rw [bt_bs, show ((s.length : Int) - 1).toNat = s.length - 1 by omega]
    simp only [optK_s, asBool_v, Bool.true_and, hlast]
    by_cases hc : s[s.length - 1]?.getD 0 = 125
    · rw [hc, br_neg (by rfl), w64_id (n := (s.length : Int) - 2) (by omega) (by omega)]
      have := l_Lt K (a := (s, 0, 0, s.length - 1)) ⟨by simp, hl, by simp, by simp, by simp⟩
      simp only [encLt, Int.pow_zero, show ((s.length - 1 : Nat) : Int) - 1 = (s.length : Int) - 2 by omega] at this
      rw [show ((0 : Nat) : Int) = 0 from rfl] at this
      rw [this]
      simp only [optK_s, outLt, beq_self_eq_true, List.dropLast_eq_take]
      cases refGo (s.take (s.length - 1)).reverse 0 0 with
      | none => rfl
      | some t => rfl
    · rw [br_pos (by simp; intro h; exact hc (UInt8.toNat_inj.1 (show (s[s.length - 1]?.getD 0).toNat = 125 by omega))), show (s[s.length - 1]?.getD 0 == 125) = false by simpa using hc]
      rfl
abbrev encS1 (a : List UInt8) : List AV := [sv (bs a)]
theorem encS1_inj {a b : List UInt8} (h : encS1 a = encS1 b) : a = b := by
  simp [encS1, bs_inj_iff] at h
  exact h
noncomputable abbrev E_rliteral := callF X f_ref23_literal encS1 (fun a => a.length ≤ 1000000000) fun s => .tup [sv (bs (litR s).1), iv (litR s).2.1, bv (litR s).2.2]
theorem k_rliteral {T : Tab} (hT : tabK T f_ref23_literal = E_rliteral) (s : List UInt8) (hl : s.length ≤ 1000000000) : tabK T f_ref23_literal [sv (bs s)] = some (.tup [sv (bs (litR s).1), iv (litR s).2.1, bv (litR s).2.2]) := by
  rw [hT]
  exact callF_eq (fun a h => pcref23_literal ok_nil loopF_ok (t_rliteral _ a h)) (fun a b h => by rw [encS1_inj h]) (a := s) hl

/-! line -/
def outsAV (l : List TOut) : AV := .lst 2 l.isEmpty (l.map outAV)
noncomputable def tbRl : Tab := [(f_ref23_literal, E_rliteral), (f_ref23_with, E_with)]
theorem tbRl_ok : TabOk X tbRl := tab_cons callQ_ok (tab_cons callQ_ok tab_nil)
abbrev QR (r : TIn × List TOut) (v : AV) : Prop := ∃ n, v = .tup [r.1.av n, outsAV r.2]
theorem asTup3 {β : Type} (a b d : AV) (k : (Nat → AV) → Option β) : Ab.asTup (.tup [a, b, d]) 3 k = k (fun i => [a, b, d].getD i .dead) := asTup_v [a, b, d] 3 rfl k
theorem asTup2 {β : Type} (a b : AV) (k : (Nat → AV) → Option β) : Ab.asTup (.tup [a, b]) 2 k = k (fun i => [a, b].getD i .dead) := asTup_v [a, b] 2 rfl k
theorem asAgg4 {β : Type} (a b d e : AV) (k : (Nat → AV) → Option β) : Ab.asAgg (.agg [a, b, d, e]) 4 k = k (fun i => [a, b, d, e].getD i .dead) := asAgg_v [a, b, d, e] 4 rfl k
theorem asAgg2 {β : Type} (a b : AV) (k : (Nat → AV) → Option β) : Ab.asAgg (.agg [a, b]) 2 k = k (fun i => [a, b].getD i .dead) := asAgg_v [a, b] 2 rfl k
theorem ne_emp (l : List (List UInt8)) (x : List UInt8) : (l ++ [x]).isEmpty = false := by cases l <;> rfl
theorem line_body (n : Bool) (ps : List (List UInt8)) (s : List UInt8) (hp : ps.length ≤ 1000) (hs : s.length ≤ 1000000) : ∃ v, QR (lineS ps s) v ∧
    (optK (tabK tbRl f_ref23_literal [sv (bs s)]) fun wv20 =>
      Ab.asTup wv20 3 fun wg21 =>
      Ab.asStr (wg21 0) fun ws22 =>
      Ab.asInt (wg21 1) .i64 fun wn23 =>
      Ab.asBool (wg21 2) fun wb24 =>
      br (!wb24)
        (optK (tabK tbRl f_ref23_with [AV.lst 1 n (svL ps), sv (bs s)]) fun wv25 =>
        Ab.asLst wv25 1 fun wb26 wr26 =>
        some (AV.tup [AV.agg [AV.lst 1 true [], sv (bs []), iv 0, iv 0], AV.lst 2 false [AV.agg [iv 1, AV.lst 1 wb26 wr26]]]))
        (optK (br (decide (wn23 > 2000))
            (some (bv true))
            (some (bv ((((svL ps).length : Nat) : Int) == 8)))) fun wv27 =>
        Ab.asBool wv27 fun wb28 =>
        br wb28
          (optK (tabK tbRl f_ref23_with [AV.lst 1 n (svL ps), sv ws22]) fun wv29 =>
          Ab.asLst wv29 1 fun wb30 wr30 =>
          br (wn23 == 0)
            (some (AV.tup [AV.agg [AV.lst 1 true [], sv (bs []), iv 4, iv 0], AV.lst 2 false [AV.agg [iv 4, AV.lst 1 wb30 wr30]]]))
            (some (AV.tup [AV.agg [AV.lst 1 true [], sv (bs []), iv 3, iv wn23], AV.lst 2 false [AV.agg [iv 4, AV.lst 1 wb30 wr30]]])))
          (br (wn23 == 0)
            (optK (tabK tbRl f_ref23_with [AV.lst 1 n (svL ps), sv ws22]) fun wv31 =>
            Ab.asLst wv31 1 fun wb32 wr32 =>
            optK (tabK tbRl f_ref23_with [AV.lst 1 wb32 wr32, sv (bs [])]) fun wv33 =>
            Ab.asLst wv33 1 fun wb34 wr34 =>
            some (AV.tup [AV.agg [AV.lst 1 wb34 wr34, sv (bs []), iv 0, iv 0], AV.lst 2 false [AV.agg [iv 2, AV.lst 1 true []]]]))
            (optK (tabK tbRl f_ref23_with [AV.lst 1 n (svL ps), sv ws22]) fun wv35 =>
            Ab.asLst wv35 1 fun wb36 wr36 =>
            some (AV.tup [AV.agg [AV.lst 1 wb36 wr36, sv (bs []), iv 1, iv wn23], AV.lst 2 false [AV.agg [iv 2, AV.lst 1 true []]]]))))) = some v := by
  rw [k_rliteral rfl s (by omega)]
  simp only [optK_s, asTup3, List.getD_cons_zero, List.getD_cons_succ, asStr_v, asInt_v, asBool_v, svL_len]
  unfold lineS
  rw [litR_lit]
  cases hk : (litR s).2.2 with
  | false =>
    simp only [Bool.not_false, br_t, k_with (T := tbRl) rfl n ps s (by omega), optK_s, asLst_v]
    exact ⟨_, ⟨true, rfl⟩, by simp [TIn.av, outsAV, outAV, emptyI, ne_emp, svL]⟩
  | true =>
    simp only [Bool.not_true, br_f]
    have hcond : br (decide ((litR s).2.1 > 2000)) (some (bv true)) (some (bv (((ps.length : Nat) : Int) == 8))) = some (bv (decide ((litR s).2.1 > 2000) || ps.length == 8)) := by
      by_cases h : (litR s).2.1 > 2000
      · rw [br_yesD h, decide_eq_true h]; rfl
      · rw [br_noD h, decide_eq_false h, Bool.false_or, Bool.eq_iff_iff.2 (show ((ps.length : Int) == 8) = true ↔ (ps.length == 8) = true by simp; omega)]
    rw [hcond]
    simp only [optK_s, asBool_v]
    cases hc : decide ((litR s).2.1 > 2000) || ps.length == 8 with
    | true =>
      simp only [br_t, k_with (T := tbRl) rfl n ps _ (show ps.length ≤ 1000000 by omega), optK_s, asLst_v]
      cases h0 : (litR s).2.1 == 0 with
      | true => exact ⟨_, ⟨true, rfl⟩, by simp [TIn.av, outsAV, outAV, emptyI, ne_emp, svL, br]⟩
      | false => exact ⟨_, ⟨true, rfl⟩, by simp [TIn.av, outsAV, outAV, emptyI, ne_emp, svL, br]⟩
    | false =>
      cases h0 : (litR s).2.1 == 0 with
      | true =>
        simp only [br_f, br_t, k_with (T := tbRl) rfl n ps _ (show ps.length ≤ 1000000 by omega), optK_s, asLst_v]
        rw [k_with (T := tbRl) rfl false _ [] (by simp; omega)]
        exact ⟨_, ⟨false, rfl⟩, by simp [TIn.av, outsAV, outAV, svL, optK, asLst_v]⟩
      | false =>
        simp only [br_f, br_t, k_with (T := tbRl) rfl n ps _ (show ps.length ≤ 1000000 by omega), optK_s, asLst_v]
        exact ⟨_, ⟨false, rfl⟩, by simp [TIn.av, outsAV, outAV, svL]⟩
abbrev encLn (a : Bool × TIn × List UInt8) : List AV := [a.2.1.av a.1, sv (bs a.2.2)]
theorem av_inj {i j : TIn} {n m : Bool} (h : i.av n = j.av m) : i = j ∧ n = m := by
  obtain ⟨ps, t, mo, ne⟩ := i
  obtain ⟨ps', t', mo', ne'⟩ := j
  simp [TIn.av, svL_inj_iff, bs_inj_iff] at h
  obtain ⟨⟨rfl, rfl⟩, rfl, rfl, rfl⟩ := h
  exact ⟨rfl, rfl⟩
theorem encLn_inj {a b : Bool × TIn × List UInt8} (h : encLn a = encLn b) : a = b := by
  obtain ⟨n, i, s⟩ := a
  obtain ⟨n', i', s'⟩ := b
  simp [encLn, bs_inj_iff] at h
  obtain ⟨h1, rfl⟩ := h
  obtain ⟨rfl, rfl⟩ := av_inj h1
  rfl
theorem t_line (n : Bool) (i : TIn) (s : List UInt8) (hp : i.ps.length ≤ 1000) (hs : s.length ≤ 1000000) : ∃ v, QR (lineS i.ps (cutSuf s 13)) v ∧ Rref23_line (tabK tbRl) n (svL i.ps) (bs i.text) i.mode i.need (bs s) = some v := by
  unfold Rref23_line
  rw [emp, bs_size]
  have hcs := cutSuf_len s 13
  rcases suf_cases s 13 with ⟨r, rfl⟩ | rfl | ⟨r, d, rfl, hd⟩
  · have hl : (r ++ [(13 : UInt8)]).length = r.length + 1 := by simp
    rw [hl] at hs ⊢
    rw [br_yesD (by omega), w64_id (by omega) (by omega), br_yesD (by omega), br_yesD (by omega), bt_bs, show (((r.length + 1 : Nat) : Int) - 1).toNat = r.length by omega]
    have h13 : ((r ++ [(13 : UInt8)])[r.length]?.getD 0) = 13 := by simp
    rw [h13]
    simp only [optK_s, asBool_v]
    rw [br_pos (by rfl), br_yesD (by omega), br_yesD (by omega), cut_to, show (((r.length + 1 : Nat) : Int) - 1).toNat = r.length by omega, List.take_left' rfl]
    have := line_body n i.ps r hp (by omega)
    rw [show cutSuf (r ++ [(13 : UInt8)]) 13 = r by unfold cutSuf; rw [hasSuf_yes]; simp]
    exact this
  · rw [br_noD (by simp)]
    simp only [optK_s, asBool_v, br_f]
    exact line_body n i.ps [] hp (by simp)
  · have hl : (r ++ [d]).length = r.length + 1 := by simp
    rw [hl] at hs ⊢
    rw [br_yesD (by omega), w64_id (by omega) (by omega), br_yesD (by omega), br_yesD (by omega), bt_bs, show (((r.length + 1 : Nat) : Int) - 1).toNat = r.length by omega]
    have h13 : ((r ++ [d])[r.length]?.getD 0) = d := by simp
    rw [h13]
    simp only [optK_s, asBool_v]
    rw [br_neg (by simp; intro h; exact hd (UInt8.toNat_inj.1 (show d.toNat = 13 by omega)))]
    have := line_body n i.ps (r ++ [d]) hp (by omega)
    rw [show cutSuf (r ++ [d]) 13 = r ++ [d] by unfold cutSuf; rw [hasSuf_no r hd]]
    exact this
noncomputable abbrev E_line := callQ X f_ref23_line encLn (fun a => a.2.1.ps.length ≤ 1000 ∧ a.2.2.length ≤ 1000000) fun a v => QR (lineS a.2.1.ps (cutSuf a.2.2 13)) v
theorem k_line {T : Tab} (hT : tabK T f_ref23_line = E_line) (n : Bool) (i : TIn) (s : List UInt8) (hp : i.ps.length ≤ 1000) (hs : s.length ≤ 1000000) : ∃ m, tabK T f_ref23_line [i.av n, sv (bs s)] = some (.tup [(lineS i.ps (cutSuf s 13)).1.av m, outsAV (lineS i.ps (cutSuf s 13)).2]) := by
  rw [hT]
  obtain ⟨v, ⟨m, hv⟩, h⟩ := callQ_eq (g := f_ref23_line) (enc := encLn) (P := fun a => a.2.1.ps.length ≤ 1000 ∧ a.2.2.length ≤ 1000000) (Q := fun a v => QR (lineS a.2.1.ps (cutSuf a.2.2 13)) v) (fun a h => by
    obtain ⟨v, hq, hv⟩ := t_line a.1 a.2.1 a.2.2 h.1 h.2
    exact ⟨v, hq, pcref23_line (tab_ok _ tbRl_ok) hv⟩) (fun a b h v hv => by rw [encLn_inj h]; exact hv) (a := (n, i, s)) ⟨hp, hs⟩
  exact ⟨m, by rw [← hv]; exact h⟩
end Go.Proofs.YtphbfkncimifoaaDoor
