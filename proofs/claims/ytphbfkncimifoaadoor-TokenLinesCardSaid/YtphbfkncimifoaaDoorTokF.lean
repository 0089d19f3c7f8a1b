import Derived.Test.YtphbfkncimifoaaDoorTokR
set_option linter.unusedVariables false
set_option linter.unusedSimpArgs false
set_option maxRecDepth 100000
namespace Go.Proofs.YtphbfkncimifoaaDoor
/- The reference's one and Feed. -/
open Go Go.Ab

theorem one_c (c : UInt8) : ({ data := [UInt8.ofNat ((c.toNat : Int)).toNat].reverse.toArray } : ByteArray) = bs [c] := by simp [bs]
theorem maxStr_ok {n : Nat} (h : n ≤ 1000000000) : n.ble maxStr = true := Nat.ble_eq_true_of_le (by unfold maxStr; omega)
theorem outs_nil : outsAV [] = .lst 2 true [] := rfl
theorem outsAV_lst (l : List TOut) : outsAV l = .lst 2 l.isEmpty (l.map outAV) := rfl
theorem u8_is (c : UInt8) (k : Nat) (hk : k < 256) : (((c.toNat : Int)) == (k : Int)) = (c == UInt8.ofNat k) := by
  rw [Bool.eq_iff_iff, beq_iff_eq, beq_iff_eq]
  constructor
  · intro h
    apply UInt8.toNat_inj.1
    simp only [UInt8.toNat_ofNat']
    omega
  · intro h
    subst h
    simp only [UInt8.toNat_ofNat']
    omega
abbrev PI (i : TIn) : Prop := i.ps.length ≤ 1000 ∧ i.text.length ≤ 1000000 ∧ -1000000000000 ≤ i.need ∧ i.need ≤ 1000000000000
theorem t_one {T : Tab} (hL : tabK T f_ref23_line = E_line) (hW : tabK T f_ref23_with = E_with) (n : Bool) (i : TIn) (c : UInt8) (hP : PI i)
    (hlong : i.mode = 0 → i.text.length = 400 → ∃ m, tabK T f_ref23_one [TIn.av ⟨[], [], 2, 0⟩ true, uv c.toNat] = some (.tup [(longS ⟨[], [], 2, 0⟩ c).1.av m, outsAV (longS ⟨[], [], 2, 0⟩ c).2])) :
    ∃ v, QR (oneS i c) v ∧ Rref23_one (tabK T) n (svL i.ps) (bs i.text) i.mode i.need c.toNat = some v := by
  obtain ⟨hp, ht, hn1, hn2⟩ := hP
  unfold Rref23_one oneS
  rw [one_c, bs_size, bs_size, cat_bs, emp, w64_id (n := i.need - 1) (by omega) (by omega)]
  have h10 : ((c.toNat : Int) == 10) = (c == 10) := u8_is c 10 (by decide)
  rw [h10]
  have hms : (i.text.length + [c].length).ble maxStr = true := maxStr_ok (by simp; omega)
  rw [hms]
  simp only [br_t]
  by_cases m0 : i.mode = 0
  · rw [br_pos (by simp [m0]), if_pos m0]
    by_cases h4 : i.text.length = 400
    · rw [br_pos (by simp [h4]), if_pos h4]
      obtain ⟨m, hm⟩ := hlong m0 h4
      have hm' : tabK T f_ref23_one [AV.agg [AV.lst 1 true [], sv (bs []), iv 2, iv 0], uv c.toNat] = some (.tup [(longS ⟨[], [], 2, 0⟩ c).1.av m, outsAV (longS ⟨[], [], 2, 0⟩ c).2]) := hm
      rw [hm']
      simp only [optK_s, asTup2, List.getD_cons_zero, List.getD_cons_succ, TIn.av, asAgg4, asLst_v, asStr_v, asInt_v, outsAV_lst]
      exact ⟨_, ⟨m, rfl⟩, rfl⟩
    · rw [br_neg (by simp; omega), if_neg h4]
      by_cases hc : c = 10
      · rw [br_pos (by simp [hc]), if_pos hc]
        obtain ⟨m, hm⟩ := k_line hL n i i.text hp ht
        have hm' : tabK T f_ref23_line [AV.agg [AV.lst 1 n (svL i.ps), sv (bs i.text), iv i.mode, iv i.need], sv (bs i.text)] = _ := hm
        rw [hm']
        simp only [optK_s, asTup2, List.getD_cons_zero, List.getD_cons_succ, TIn.av, asAgg4, asLst_v, asStr_v, asInt_v, outsAV_lst]
        exact ⟨_, ⟨m, rfl⟩, rfl⟩
      · rw [br_neg (by simpa using hc), if_neg hc]
        exact ⟨_, ⟨n, rfl⟩, rfl⟩
  · rw [br_neg (by simpa using m0), if_neg m0]
    by_cases m1 : i.mode = 1
    · rw [br_pos (by simp [m1]), if_pos m1]
      by_cases hz : i.need - 1 = 0
      · rw [br_pos (by simp [hz]), if_pos hz, k_with hW n i.ps _ (by omega)]
        simp only [optK_s, asLst_v]
        exact ⟨_, ⟨false, rfl⟩, rfl⟩
      · rw [br_neg (by simpa using hz), if_neg hz]
        exact ⟨_, ⟨n, rfl⟩, rfl⟩
    · rw [br_neg (by simpa using m1), if_neg m1]
      by_cases m2 : i.mode = 2
      · rw [br_pos (by simp [m2]), if_pos m2]
        unfold longS
        by_cases hc : c = 10
        · rw [br_pos (by simp [hc]), show (c == 10) = true by simp [hc]]
          exact ⟨_, ⟨true, rfl⟩, rfl⟩
        · rw [br_neg (by simpa using hc), show (c == 10) = false by simpa using hc]
          exact ⟨_, ⟨n, rfl⟩, rfl⟩
      · rw [br_neg (by simpa using m2), if_neg m2]
        by_cases m3 : i.mode = 3
        · rw [br_pos (by simp [m3]), if_pos m3]
          by_cases hz : i.need - 1 = 0
          · rw [br_pos (by simp [hz]), if_pos hz]
            exact ⟨_, ⟨true, rfl⟩, rfl⟩
          · rw [br_neg (by simpa using hz), if_neg hz]
            exact ⟨_, ⟨n, rfl⟩, rfl⟩
        · rw [br_neg (by simpa using m3), if_neg m3]
          by_cases hc : c = 10
          · rw [br_pos (by simp [hc]), if_pos hc]
            exact ⟨_, ⟨true, rfl⟩, rfl⟩
          · rw [br_neg (by simpa using hc), if_neg hc]
            exact ⟨_, ⟨n, rfl⟩, rfl⟩
abbrev encO (a : Bool × TIn × UInt8) : List AV := [a.2.1.av a.1, uv a.2.2.toNat]
theorem encO_inj {a b : Bool × TIn × UInt8} (h : encO a = encO b) : a = b := by
  obtain ⟨n, i, c⟩ := a
  obtain ⟨n', i', c'⟩ := b
  simp only [encO, List.cons.injEq, AV.v.injEq, Value.int.injEq, true_and, and_true] at h
  obtain ⟨h1, h2⟩ := h
  obtain ⟨rfl, rfl⟩ := av_inj h1
  rw [u8_inj h2]
noncomputable abbrev E_one1 := callQ X f_ref23_one encO (fun a => a.2.1 = ⟨[], [], 2, 0⟩) fun a v => QR (oneS a.2.1 a.2.2) v
noncomputable def tbO1 : Tab := [(f_ref23_line, E_line), (f_ref23_with, E_with)]
theorem tbO1_ok : TabOk X tbO1 := tab_cons callQ_ok (tab_cons callQ_ok tab_nil)
noncomputable def tbO2 : Tab := [(f_ref23_one, E_one1), (f_ref23_line, E_line), (f_ref23_with, E_with)]
theorem tbO2_ok : TabOk X tbO2 := tab_cons callQ_ok (tab_cons callQ_ok (tab_cons callQ_ok tab_nil))
theorem pc_one (n : Bool) (i : TIn) (c : UInt8) (h : PI i) : ∃ v, QR (oneS i c) v ∧ PureCall X f_ref23_one (encO (n, i, c)) v := by
  obtain ⟨v, hq, hv⟩ := t_one (T := tbO2) rfl rfl n i c h fun h0 h4 => by
    obtain ⟨v, ⟨m, hv⟩, hk⟩ := callQ_eq (X := X) (g := f_ref23_one) (enc := encO) (P := fun a => a.2.1 = ⟨[], [], 2, 0⟩) (Q := fun a v => QR (oneS a.2.1 a.2.2) v) (fun a ha => by
      obtain ⟨n, i, c⟩ := a
      have hi : i = ⟨[], [], 2, 0⟩ := ha
      subst hi
      obtain ⟨v, hq, hv⟩ := t_one (T := tbO1) rfl rfl n ⟨[], [], 2, 0⟩ c ⟨by simp, by simp, by simp, by simp⟩ (fun h0 => by cases h0)
      exact ⟨v, hq, pcref23_one (tab_ok _ tbO1_ok) hv⟩) (fun a b h v hv => by rw [encO_inj h]; exact hv) (a := (true, ⟨[], [], 2, 0⟩, c)) rfl
    subst hv
    exact ⟨m, hk⟩
  exact ⟨v, hq, pcref23_one (tab_ok _ tbO2_ok) hv⟩
noncomputable abbrev E_one := callQ X f_ref23_one encO (fun a => PI a.2.1) fun a v => QR (oneS a.2.1 a.2.2) v
theorem k_one {T : Tab} (hT : tabK T f_ref23_one = E_one) (n : Bool) (i : TIn) (c : UInt8) (h : PI i) : ∃ m, tabK T f_ref23_one [i.av n, uv c.toNat] = some (.tup [(oneS i c).1.av m, outsAV (oneS i c).2]) := by
  rw [hT]
  obtain ⟨v, ⟨m, hv⟩, hk⟩ := callQ_eq (X := X) (g := f_ref23_one) (enc := encO) (P := fun a => PI a.2.1) (Q := fun a v => QR (oneS a.2.1 a.2.2) v) (fun a ha => pc_one a.1 a.2.1 a.2.2 ha) (fun a b h v hv => by rw [encO_inj h]; exact hv) (a := (n, i, c)) h
  exact ⟨m, by rw [← hv]; exact hk⟩

/-! Feed -/
theorem right_PI {i : TIn} (h : RightI i) : PI i := by
  obtain ⟨h1, h2, h⟩ := h
  refine ⟨by omega, ?_, ?_, ?_⟩ <;> rcases h with ⟨m, a, b, d⟩ | ⟨m, a, a2, b, d⟩ | ⟨m, a, b, d⟩ | ⟨m, a, a2, b, d⟩ <;> first | omega | (rw [b]; simp)
abbrev Junk := Bool × List AV × ByteArray × Int × Int
structure RF where
  bn : Bool
  b : List UInt8
  j : Nat
  n : Bool
  i : TIn
  j1 : ByteArray × Int × Int
  o : Option (Junk × List TOut)
def RF.outs (a : RF) : List TOut := match a.o with
  | none => []
  | some (_, l) => l
def encRF (a : RF) : Sref23_Feed_0 := match a.o with
  | none => .s0 a.bn (uvs a.b) a.j a.n (svL a.i.ps) (bs a.i.text) a.i.mode a.i.need a.j1.1 a.j1.2.1 a.j1.2.2
  | some (j, l) => .s1 a.bn (uvs a.b) a.j a.n (svL a.i.ps) (bs a.i.text) a.i.mode a.i.need a.j1.1 a.j1.2.1 a.j1.2.2 j.1 j.2.1 j.2.2.1 j.2.2.2.1 j.2.2.2.2 (l.map outAV)
def finRF (o : Oref23_Feed_0) : Option AV := match o with
  | .x0 a b c d e _ _ _ => some (.tup [.agg [.lst 1 a b, sv c, iv d, iv e], .lst 2 true []])
  | .x1 a b c d e _ _ _ _ _ _ _ _ l => some (.tup [.agg [.lst 1 a b, sv c, iv d, iv e], .lst 2 false l])
abbrev QRF (a : RF) (o : Oref23_Feed_0) : Prop := ∃ m, finRF o = some (.tup [(feedS a.i (a.b.drop a.j)).1.av m, outsAV (a.outs ++ (feedS a.i (a.b.drop a.j)).2)])
theorem outAV_inj {x y : TOut} (h : outAV x = outAV y) : x = y := by
  obtain ⟨k, l⟩ := x
  obtain ⟨k', l'⟩ := y
  simp [outAV, svL_inj_iff] at h
  obtain ⟨rfl, _, rfl⟩ := h
  rfl
theorem outs_inj : ∀ {x y : List TOut}, x.map outAV = y.map outAV → x = y
  | [], [], _ => rfl
  | [], y :: ys, h => by simp at h
  | x :: xs, [], h => by simp at h
  | x :: xs, y :: ys, h => by
    simp only [List.map_cons, List.cons.injEq] at h
    rw [outAV_inj h.1, outs_inj h.2]
theorem encRF_inj {a b : RF} (h : encRF a = encRF b) : a = b := by
  obtain ⟨bn, b1, j, n, ⟨ps, t, mo, ne⟩, ⟨x1, x2, x3⟩, o⟩ := a
  obtain ⟨bn', b1', j', n', ⟨ps', t', mo', ne'⟩, ⟨x1', x2', x3'⟩, o'⟩ := b
  cases o with
  | none =>
    cases o' with
    | none =>
      simp [encRF, uvs_inj_iff, svL_inj_iff, bs_inj_iff] at h
      obtain ⟨rfl, rfl, h3, rfl, rfl, rfl, rfl, rfl, rfl, rfl, rfl⟩ := h
      have : j = j' := by omega
      rw [this]
    | some o' => simp [encRF] at h
  | some o =>
    cases o' with
    | none => simp [encRF] at h
    | some o' =>
      obtain ⟨⟨y1, y2, y3, y4, y5⟩, l⟩ := o
      obtain ⟨⟨y1', y2', y3', y4', y5'⟩, l'⟩ := o'
      simp only [encRF, Sref23_Feed_0.s1.injEq] at h
      obtain ⟨rfl, h2, h3, rfl, h4, h5, rfl, rfl, rfl, rfl, rfl, rfl, rfl, rfl, rfl, rfl, h6⟩ := h
      have : j = j' := by omega
      rw [this, uvs_inj h2, svL_inj h4, bs_inj h5, outs_inj h6]
noncomputable def tbF : Tab := [(f_ref23_one, E_one)]
theorem tbF_ok : TabOk X tbF := tab_cons callQ_ok tab_nil
abbrev PRF (a : RF) : Prop := a.j ≤ a.b.length ∧ a.b.length ≤ 1000000 ∧ RightI a.i ∧ a.outs.length ≤ a.j ∧ (∀ j l, a.o = some (j, l) → l ≠ [])
theorem drop_at {α : Type} {l : List α} {j : Nat} (h : j < l.length) : l.drop j = l[j] :: l.drop (j + 1) := List.drop_eq_getElem_cons h
theorem l_RF {a : RF} (h : PRF a) : ∃ o, QRF a o ∧ loopQ (Rref23_Feed_0 (tabK tbF) some) encRF PRF QRF (encRF a) = some o := by
  refine loopQ_eq (fun a => a.b.length - a.j) ?_ (fun a b h o ho => by rw [encRF_inj h]; exact ho) h
  rintro ⟨bn, b, j, n, i, ⟨x1, x2, x3⟩, o⟩ rec ⟨h1, h2, h3, h4, h5⟩ hrec
  simp only [] at h1 h2 h3 hrec
  by_cases hj : j < b.length
  · obtain ⟨m, hm⟩ := k_one (T := tbF) rfl n i b[j] (right_PI h3)
    have hm' : tabK tbF f_ref23_one [AV.agg [AV.lst 1 n (svL i.ps), sv (bs i.text), iv i.mode, iv i.need], uv b[j].toNat] = _ := hm
    obtain ⟨g1, g2⟩ := good_one h3 b[j]
    have hr := right_one h3 b[j]
    have hfe : feedS i (b.drop j) = ((feedS (oneS i b[j]).1 (b.drop (j + 1))).1, (oneS i b[j]).2 ++ (feedS (oneS i b[j]).1 (b.drop (j + 1))).2) := by rw [drop_at hj]; rfl
    cases o with
    | none =>
      simp only [RF.outs, List.length_nil] at h4
      simp only [encRF, Rref23_Feed_0, uvs_len]
      rw [br_yesD (by omega), br_yesD (by omega), br_yesD (by omega), Int.toNat_natCast, uvs_get b j hj]
      simp only [optK_s, asInt_v, hm', asTup2, List.getD_cons_zero, List.getD_cons_succ, TIn.av, asAgg4, asLst_v, asStr_v, outsAV_lst]
      rw [w64_id (by omega) (by omega), show (j : Int) + 1 = ((j + 1 : Nat) : Int) by omega]
      simp only [List.isEmpty_map]
      cases hq : (oneS i b[j]).2 with
      | nil =>
        rw [List.isEmpty_nil, br_t]
        obtain ⟨o', ⟨m', ho'⟩, hk⟩ := hrec ⟨bn, b, j + 1, m, (oneS i b[j]).1, (x1, x2, x3), none⟩ ⟨hj, h2, hr, by simp [RF.outs], fun j l h => by cases h⟩ (by simp only []; omega)
        refine ⟨o', ⟨m', ?_⟩, hk⟩
        rw [ho']
        simp only [RF.outs, List.nil_append, hfe, hq]
      | cons q qs =>
        rw [List.isEmpty_cons, br_f]
        rw [hq] at g1
        simp only [List.length_cons] at g1
        rw [br_pos (lenOks_of (by omega) (by simp; omega))]
        obtain ⟨o', ⟨m', ho'⟩, hk⟩ := hrec ⟨bn, b, j + 1, m, (oneS i b[j]).1, (x1, x2, x3), some ((m, svL (oneS i b[j]).1.ps, bs (oneS i b[j]).1.text, (oneS i b[j]).1.mode, (oneS i b[j]).1.need), q :: qs)⟩ ⟨hj, h2, hr, by simp [RF.outs]; omega, fun j l h => by cases h; simp⟩ (by simp only []; omega)
        refine ⟨o', ⟨m', ?_⟩, hk⟩
        rw [ho']
        simp only [RF.outs, List.nil_append, hfe, hq]
    | some o =>
      obtain ⟨⟨y1, y2, y3, y4, y5⟩, l⟩ := o
      simp only [RF.outs] at h4
      have h5 := h5 _ _ rfl
      simp only [encRF, Rref23_Feed_0, uvs_len]
      rw [br_yesD (by omega), br_yesD (by omega), br_yesD (by omega), Int.toNat_natCast, uvs_get b j hj]
      simp only [optK_s, asInt_v, hm', asTup2, List.getD_cons_zero, List.getD_cons_succ, TIn.av, asAgg4, asLst_v, asStr_v, outsAV_lst]
      rw [w64_id (by omega) (by omega), show (j : Int) + 1 = ((j + 1 : Nat) : Int) by omega, br_pos (lenOks_of (by omega) (by simp; omega)), ← List.map_append]
      obtain ⟨o', ⟨m', ho'⟩, hk⟩ := hrec ⟨bn, b, j + 1, m, (oneS i b[j]).1, (x1, x2, x3), some ((y1, y2, y3, y4, y5), l ++ (oneS i b[j]).2)⟩ ⟨hj, h2, hr, by simp [RF.outs]; omega, fun j l h => by cases h; simp [h5]⟩ (by simp only []; omega)
      refine ⟨o', ⟨m', ?_⟩, hk⟩
      rw [ho']
      simp only [RF.outs, hfe, List.append_assoc]
  · have hd : b.drop j = [] := List.drop_of_length_le (by omega)
    cases o with
    | none =>
      simp only [encRF, Rref23_Feed_0, uvs_len]
      rw [br_noD (by omega)]
      exact ⟨_, ⟨n, by simp only [hd, feedS, RF.outs]; rfl⟩, rfl⟩
    | some o =>
      obtain ⟨⟨y1, y2, y3, y4, y5⟩, l⟩ := o
      have h5 := h5 _ _ rfl
      simp only [encRF, Rref23_Feed_0, uvs_len]
      rw [br_noD (by omega)]
      refine ⟨_, ⟨n, ?_⟩, rfl⟩
      simp only [hd, feedS, RF.outs, List.append_nil, finRF, outsAV, TIn.av]
      rw [show l.isEmpty = false by cases l with | nil => exact absurd rfl h5 | cons a t => rfl]
end Go.Proofs.YtphbfkncimifoaaDoor
