import Derived.Test.YtphbfkncimifoaaDoorTokF
set_option linter.unusedVariables false
set_option linter.unusedSimpArgs false
set_option maxRecDepth 100000
namespace Go.Proofs.YtphbfkncimifoaaDoor
/- Right, Same, Outs, plain; the reference's Feed. -/
open Go Go.Ab

/-! lists of texts compared -/
abbrev encT2 (a : Bool × List (List UInt8) × Bool × List (List UInt8)) : List AV := [.lst 1 a.1 (svL a.2.1), .lst 1 a.2.2.1 (svL a.2.2.2)]
theorem encT2_inj {a b : Bool × List (List UInt8) × Bool × List (List UInt8)} (h : encT2 a = encT2 b) : a = b := by
  obtain ⟨n, l, m, k⟩ := a
  obtain ⟨n', l', m', k'⟩ := b
  simp [encT2, svL_inj_iff] at h
  obtain ⟨⟨rfl, rfl⟩, rfl, rfl⟩ := h
  rfl
structure TX where
  n : Bool
  l : List (List UInt8)
  m : Bool
  k : List (List UInt8)
  j : Nat
def eqFrom (a : TX) : Bool := a.l.drop a.j == a.k.drop a.j
theorem eqFrom_step {a : TX} (h1 : a.j < a.l.length) (h2 : a.j < a.k.length) : eqFrom a = (a.l[a.j] == a.k[a.j] && eqFrom { a with j := a.j + 1 }) := by
  unfold eqFrom
  rw [List.drop_eq_getElem_cons h1, List.drop_eq_getElem_cons h2, List.cons_beq_cons]
def encTx (a : TX) : Sref10_Texts_0 := .s0 a.n (svL a.l) a.m (svL a.k) a.j
def outTx (a : TX) : Oref10_Texts_0 := match eqFrom a with | true => .x1 | false => .x0 false
abbrev PTx (a : TX) : Prop := a.l.length = a.k.length ∧ a.j ≤ a.l.length ∧ a.l.length ≤ 1000000000
theorem encTx_inj {a b : TX} (h : encTx a = encTx b) : a = b := by
  obtain ⟨n, l, m, k, j⟩ := a
  obtain ⟨n', l', m', k', j'⟩ := b
  simp [encTx, svL_inj_iff] at h
  obtain ⟨rfl, rfl, rfl, rfl, h⟩ := h
  have : j = j' := by omega
  rw [this]
theorem l_Tx (K : PureK) {a : TX} (h : PTx a) : loopF (Rref10_Texts_0 K some) encTx PTx outTx (encTx a) = some (outTx a) := by
  refine loopF_eq (fun a => a.l.length - a.j) ?_ (fun a b h => by rw [encTx_inj h]) h
  rintro ⟨n, l, m, k, j⟩ rec ⟨h1, h2, h3⟩ hrec
  simp only [] at h1 h2 h3 hrec
  simp only [encTx]
  simp only [Rref10_Texts_0, outTx, svL_len]
  by_cases hj : j < l.length
  · rw [br_yesD (by omega), br_yesD (by omega), br_yesD (by omega), Int.toNat_natCast, svL_get l j hj]
    simp only [optK_s, asStr_v]
    rw [br_yesD (by omega), br_yesD (by omega), svL_get k j (by omega)]
    simp only [optK_s, asStr_v, strEq_bs]
    rw [eqFrom_step (a := ⟨n, l, m, k, j⟩) hj (by simp only []; omega)]
    simp only []
    cases hc : l[j] == k[j] with
    | false => rfl
    | true =>
      rw [Bool.not_true, br_f, w64_id (by omega) (by omega), show (j : Int) + 1 = ((j + 1 : Nat) : Int) by omega, Bool.true_and]
      exact hrec ⟨n, l, m, k, j + 1⟩ ⟨h1, hj, h3⟩ (by simp only []; omega)
  · rw [br_noD (by omega)]
    have e1 : l.drop j = [] := List.drop_of_length_le (by omega)
    have e2 : k.drop j = [] := List.drop_of_length_le (by omega)
    simp only [eqFrom, e1, e2]
    rfl
theorem t_Texts (K : PureK) (n : Bool) (l : List (List UInt8)) (m : Bool) (k : List (List UInt8)) (hl : l.length ≤ 1000000000) : Rref10_Texts K (loopF (Rref10_Texts_0 K some) encTx PTx outTx) n (svL l) m (svL k) = some (bv (l == k)) := by
  unfold Rref10_Texts
  rw [svL_len, svL_len]
  by_cases h : l.length = k.length
  · rw [br_neg (by simp [h])]
    have := l_Tx K (a := ⟨n, l, m, k, 0⟩) ⟨h, by simp, hl⟩
    simp only [encTx] at this
    rw [show ((0 : Nat) : Int) = 0 from rfl] at this
    rw [this]
    simp only [outTx, eqFrom, List.drop_zero, optK_s]
    cases l == k <;> rfl
  · rw [br_pos (by simp; omega), show (l == k) = false by simp; rintro rfl; exact h rfl]
noncomputable abbrev E_Texts := callF X f_ref10_Texts encT2 (fun a => a.2.1.length ≤ 1000000000) fun a => bv (a.2.1 == a.2.2.2)
theorem k_Texts {T : Tab} (hT : tabK T f_ref10_Texts = E_Texts) (n : Bool) (l : List (List UInt8)) (m : Bool) (k : List (List UInt8)) (hl : l.length ≤ 1000000000) : tabK T f_ref10_Texts [.lst 1 n (svL l), .lst 1 m (svL k)] = some (bv (l == k)) := by
  rw [hT]
  exact callF_eq (fun a h => pcref10_Texts ok_nil loopF_ok (t_Texts _ a.1 a.2.1 a.2.2.1 a.2.2.2 h)) (fun a b h => by rw [encT2_inj h]) (a := (n, l, m, k)) hl
def encTe (a : TX) : Sslices_Equal_string_string_0 := .s0 a.n (svL a.l) a.m (svL a.k) a.l.length a.j
def outTe (a : TX) : Oslices_Equal_string_string_0 := match eqFrom a with | true => .x1 | false => .x0 false
theorem encTe_inj {a b : TX} (h : encTe a = encTe b) : a = b := by
  obtain ⟨n, l, m, k, j⟩ := a
  obtain ⟨n', l', m', k', j'⟩ := b
  simp [encTe, svL_inj_iff] at h
  obtain ⟨rfl, rfl, rfl, rfl, _, h⟩ := h
  have : j = j' := by omega
  rw [this]
theorem l_Te (K : PureK) {a : TX} (h : PTx a) : loopF (Rslices_Equal_string_string_0 K some) encTe PTx outTe (encTe a) = some (outTe a) := by
  refine loopF_eq (fun a => a.l.length - a.j) ?_ (fun a b h => by rw [encTe_inj h]) h
  rintro ⟨n, l, m, k, j⟩ rec ⟨h1, h2, h3⟩ hrec
  simp only [] at h1 h2 h3 hrec
  simp only [encTe]
  simp only [Rslices_Equal_string_string_0, outTe, svL_len]
  by_cases hj : j < l.length
  · rw [br_yesD (by omega), br_yesD (by omega), br_yesD (by omega), Int.toNat_natCast, svL_get l j hj]
    simp only [optK_s, asStr_v]
    rw [br_yesD (by omega), br_yesD (by omega), svL_get k j (by omega)]
    simp only [optK_s, asStr_v, strEq_bs]
    rw [eqFrom_step (a := ⟨n, l, m, k, j⟩) hj (by simp only []; omega)]
    simp only []
    cases hc : l[j] == k[j] with
    | false => rfl
    | true =>
      rw [Bool.not_true, br_f, w64_id (by omega) (by omega), show (j : Int) + 1 = ((j + 1 : Nat) : Int) by omega, Bool.true_and]
      exact hrec ⟨n, l, m, k, j + 1⟩ ⟨h1, hj, h3⟩ (by simp only []; omega)
  · rw [br_noD (by omega)]
    have e1 : l.drop j = [] := List.drop_of_length_le (by omega)
    have e2 : k.drop j = [] := List.drop_of_length_le (by omega)
    simp only [eqFrom, e1, e2]
    rfl
theorem t_Equal (K : PureK) (n : Bool) (l : List (List UInt8)) (m : Bool) (k : List (List UInt8)) (hl : l.length ≤ 1000000000) : Rslices_Equal_string_string K (loopF (Rslices_Equal_string_string_0 K some) encTe PTx outTe) n (svL l) m (svL k) = some (bv (l == k)) := by
  unfold Rslices_Equal_string_string
  rw [svL_len, svL_len]
  by_cases h : l.length = k.length
  · rw [br_neg (by simp [h])]
    have := l_Te K (a := ⟨n, l, m, k, 0⟩) ⟨h, by simp, hl⟩
    simp only [encTe] at this
    rw [show ((0 : Nat) : Int) = 0 from rfl] at this
    rw [this]
    simp only [outTe, eqFrom, List.drop_zero, optK_s]
    cases l == k <;> rfl
  · rw [br_pos (by simp; omega), show (l == k) = false by simp; rintro rfl; exact h rfl]
noncomputable abbrev E_Equal := callF X f_slices_Equal_string_string encT2 (fun a => a.2.1.length ≤ 1000000000) fun a => bv (a.2.1 == a.2.2.2)
theorem k_Equal {T : Tab} (hT : tabK T f_slices_Equal_string_string = E_Equal) (n : Bool) (l : List (List UInt8)) (m : Bool) (k : List (List UInt8)) (hl : l.length ≤ 1000000000) : tabK T f_slices_Equal_string_string [.lst 1 n (svL l), .lst 1 m (svL k)] = some (bv (l == k)) := by
  rw [hT]
  exact callF_eq (fun a h => pcslices_Equal_string_string ok_nil loopF_ok (t_Equal _ a.1 a.2.1 a.2.2.1 a.2.2.2 h)) (fun a b h => by rw [encT2_inj h]) (a := (n, l, m, k)) hl

/-! Same -/
def sameI (i j : TIn) : Bool := i.text == j.text && (i.mode == j.mode && (i.need == j.need && i.ps == j.ps))
abbrev encII (a : Bool × TIn × Bool × TIn) : List AV := [a.2.1.av a.1, a.2.2.2.av a.2.2.1]
theorem encII_inj {a b : Bool × TIn × Bool × TIn} (h : encII a = encII b) : a = b := by
  obtain ⟨n, i, m, j⟩ := a
  obtain ⟨n', i', m', j'⟩ := b
  simp only [encII, List.cons.injEq, and_true] at h
  obtain ⟨h1, h2⟩ := h
  obtain ⟨rfl, rfl⟩ := av_inj h1
  obtain ⟨rfl, rfl⟩ := av_inj h2
  rfl
noncomputable def tbTx : Tab := [(f_ref10_Texts, E_Texts), (f_slices_Equal_string_string, E_Equal)]
theorem tbTx_ok : TabOk X tbTx := tab_cons callQ_ok (tab_cons callQ_ok tab_nil)
theorem br_bv (a b : Bool) : br a (some (bv b)) (some (bv false)) = some (bv (a && b)) := by cases a <;> rfl
theorem t_rSame (n : Bool) (i : TIn) (m : Bool) (j : TIn) (h : i.ps.length ≤ 1000000000) : Rref23_Same (tabK tbTx) n (svL i.ps) (bs i.text) i.mode i.need m (svL j.ps) (bs j.text) j.mode j.need = some (bv (sameI i j)) := by
  unfold Rref23_Same sameI
  rw [k_Texts rfl n i.ps m j.ps h]
  simp only [optK_s, asBool_v, br_bv, strEq_bs]
theorem t_tSame (n : Bool) (i : TIn) (m : Bool) (j : TIn) (h : i.ps.length ≤ 1000000000) : Rtoken_Same (tabK tbTx) n (svL i.ps) (bs i.text) i.mode i.need m (svL j.ps) (bs j.text) j.mode j.need = some (bv (sameI i j)) := by
  unfold Rtoken_Same sameI
  rw [k_Equal rfl n i.ps m j.ps h]
  simp only [optK_s, asBool_v, br_bv, strEq_bs]
  cases i.ps == j.ps <;> cases i.text == j.text <;> cases i.mode == j.mode <;> cases i.need == j.need <;> rfl
noncomputable abbrev E_rSame := callF X f_ref23_Same encII (fun a => a.2.1.ps.length ≤ 1000000000) fun a => bv (sameI a.2.1 a.2.2.2)
noncomputable abbrev E_tSame := callF X f_token_Same encII (fun a => a.2.1.ps.length ≤ 1000000000) fun a => bv (sameI a.2.1 a.2.2.2)
theorem k_rSame {T : Tab} (hT : tabK T f_ref23_Same = E_rSame) (n : Bool) (i : TIn) (m : Bool) (j : TIn) (h : i.ps.length ≤ 1000000000) : tabK T f_ref23_Same [i.av n, j.av m] = some (bv (sameI i j)) := by
  rw [hT]
  exact callF_eq (g := f_ref23_Same) (enc := encII) (P := fun a => a.2.1.ps.length ≤ 1000000000) (f := fun a => bv (sameI a.2.1 a.2.2.2)) (fun a h => pcref23_Same (tab_ok _ tbTx_ok) (t_rSame a.1 a.2.1 a.2.2.1 a.2.2.2 h)) (fun a b h => by rw [encII_inj h]) (a := (n, i, m, j)) h
theorem k_tSame {T : Tab} (hT : tabK T f_token_Same = E_tSame) (n : Bool) (i : TIn) (m : Bool) (j : TIn) (h : i.ps.length ≤ 1000000000) : tabK T f_token_Same [i.av n, j.av m] = some (bv (sameI i j)) := by
  rw [hT]
  exact callF_eq (g := f_token_Same) (enc := encII) (P := fun a => a.2.1.ps.length ≤ 1000000000) (f := fun a => bv (sameI a.2.1 a.2.2.2)) (fun a h => pctoken_Same (tab_ok _ tbTx_ok) (t_tSame a.1 a.2.1 a.2.2.1 a.2.2.2 h)) (fun a b h => by rw [encII_inj h]) (a := (n, i, m, j)) h

/-! Outs -/
structure OX where
  n : Bool
  l : List TOut
  m : Bool
  k : List TOut
  j : Nat
def encOx (a : OX) : Sref23_Outs_0 := .s0 a.n (a.l.map outAV) a.m (a.k.map outAV) a.j
def eqO (a : OX) : Bool := a.l.drop a.j == a.k.drop a.j
def outOx (a : OX) : Oref23_Outs_0 := match eqO a with | true => .x1 | false => .x0 false
abbrev POx (a : OX) : Prop := a.l.length = a.k.length ∧ a.j ≤ a.l.length ∧ a.l.length ≤ 1000000000 ∧ (∀ o ∈ a.l, o.2.length ≤ 1000000000)
theorem encOx_inj {a b : OX} (h : encOx a = encOx b) : a = b := by
  obtain ⟨n, l, m, k, j⟩ := a
  obtain ⟨n', l', m', k', j'⟩ := b
  simp only [encOx, Sref23_Outs_0.s0.injEq] at h
  obtain ⟨rfl, h1, rfl, h2, h⟩ := h
  have : j = j' := by omega
  rw [this, outs_inj h1, outs_inj h2]
theorem outs_get (l : List TOut) (i : Nat) (h : i < l.length) : (l.map outAV)[i]? = some (outAV l[i]) := by simp [h]
theorem l_Ox {a : OX} (h : POx a) : loopF (Rref23_Outs_0 (tabK tbTx) some) encOx POx outOx (encOx a) = some (outOx a) := by
  refine loopF_eq (fun a => a.l.length - a.j) ?_ (fun a b h => by rw [encOx_inj h]) h
  rintro ⟨n, l, m, k, j⟩ rec ⟨h1, h2, h3, h4⟩ hrec
  simp only [] at h1 h2 h3 h4 hrec
  simp only [encOx]
  simp only [Rref23_Outs_0, outOx, List.length_map]
  by_cases hj : j < l.length
  · have hk : j < k.length := by omega
    rw [br_yesD (by omega), br_yesD (by omega), br_yesD (by omega), Int.toNat_natCast, outs_get l j hj, outs_get k j hk]
    simp only [optK_s, outAV, asAgg2, List.getD_cons_zero, List.getD_cons_succ, asInt_v, asLst_v]
    rw [br_yesD (by omega), br_yesD (by omega), br_yesD (by omega), br_yesD (by omega), br_yesD (by omega), br_yesD (by omega), k_Texts (T := tbTx) rfl _ _ _ _ (h4 _ (List.getElem_mem hj))]
    simp only [optK_s, asBool_v]
    have hstep : eqO ⟨n, l, m, k, j⟩ = (l[j] == k[j] && eqO ⟨n, l, m, k, j + 1⟩) := by
      unfold eqO
      simp only []
      rw [List.drop_eq_getElem_cons hj, List.drop_eq_getElem_cons hk, List.cons_beq_cons]
    have hpair : (l[j] == k[j]) = (l[j].1 == k[j].1 && l[j].2 == k[j].2) := rfl
    rw [hstep, hpair]
    cases hc : l[j].1 == k[j].1 with
    | false =>
      rw [show (l[j].1 != k[j].1) = true by simp [bne, hc]]
      rfl
    | true =>
      rw [show (l[j].1 != k[j].1) = false by simp [bne, hc], br_f]
      simp only [optK_s, asBool_v]
      cases hd : l[j].2 == k[j].2 with
      | false => rfl
      | true =>
        rw [Bool.not_true, br_f, w64_id (by omega) (by omega), show (j : Int) + 1 = ((j + 1 : Nat) : Int) by omega]
        exact hrec ⟨n, l, m, k, j + 1⟩ ⟨h1, hj, h3, h4⟩ (by simp only []; omega)
  · rw [br_noD (by omega)]
    have e1 : l.drop j = [] := List.drop_of_length_le (by omega)
    have e2 : k.drop j = [] := List.drop_of_length_le (by omega)
    simp only [eqO, e1, e2]
    rfl
theorem t_Outs (n : Bool) (l : List TOut) (m : Bool) (k : List TOut) (hl : l.length ≤ 1000000000) (hp : ∀ o ∈ l, o.2.length ≤ 1000000000) : Rref23_Outs (tabK tbTx) (loopF (Rref23_Outs_0 (tabK tbTx) some) encOx POx outOx) n (l.map outAV) m (k.map outAV) = some (bv (l == k)) := by
  unfold Rref23_Outs
  simp only [List.length_map]
  by_cases h : l.length = k.length
  · rw [br_neg (by simp [h])]
    have := l_Ox (a := ⟨n, l, m, k, 0⟩) ⟨h, by simp, hl, hp⟩
    simp only [encOx] at this
    rw [show ((0 : Nat) : Int) = 0 from rfl] at this
    rw [this]
    simp only [outOx, eqO, List.drop_zero, optK_s]
    cases l == k <;> rfl
  · rw [br_pos (by simp; omega), show (l == k) = false by simp; rintro rfl; exact h rfl]
abbrev encOO (a : Bool × List TOut × Bool × List TOut) : List AV := [.lst 2 a.1 (a.2.1.map outAV), .lst 2 a.2.2.1 (a.2.2.2.map outAV)]
theorem encOO_inj {a b : Bool × List TOut × Bool × List TOut} (h : encOO a = encOO b) : a = b := by
  obtain ⟨n, l, m, k⟩ := a
  obtain ⟨n', l', m', k'⟩ := b
  simp only [encOO, List.cons.injEq, AV.lst.injEq, true_and, and_true] at h
  obtain ⟨⟨rfl, h1⟩, rfl, h2⟩ := h
  rw [outs_inj h1, outs_inj h2]
abbrev POO (a : Bool × List TOut × Bool × List TOut) : Prop := a.2.1.length ≤ 1000000000 ∧ ∀ o ∈ a.2.1, o.2.length ≤ 1000000000
noncomputable abbrev E_Outs := callF X f_ref23_Outs encOO POO fun a => bv (a.2.1 == a.2.2.2)
theorem k_Outs {T : Tab} (hT : tabK T f_ref23_Outs = E_Outs) (n : Bool) (l : List TOut) (m : Bool) (k : List TOut) (hl : l.length ≤ 1000000000) (hp : ∀ o ∈ l, o.2.length ≤ 1000000000) : tabK T f_ref23_Outs [.lst 2 n (l.map outAV), .lst 2 m (k.map outAV)] = some (bv (l == k)) := by
  rw [hT]
  exact callF_eq (g := f_ref23_Outs) (enc := encOO) (P := POO) (f := fun a => bv (a.2.1 == a.2.2.2)) (fun a h => pcref23_Outs (tab_ok _ tbTx_ok) loopF_ok (t_Outs a.1 a.2.1 a.2.2.1 a.2.2.2 h.1 h.2)) (fun a b h => by rw [encOO_inj h]) (a := (n, l, m, k)) ⟨hl, hp⟩
end Go.Proofs.YtphbfkncimifoaaDoor
