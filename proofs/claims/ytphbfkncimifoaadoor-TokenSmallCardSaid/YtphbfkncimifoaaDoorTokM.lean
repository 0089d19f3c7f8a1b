import Derived.Test.YtphbfkncimifoaaDoorTokL
set_option linter.unusedVariables false
set_option linter.unusedSimpArgs false
set_option maxRecDepth 100000
namespace Go.Proofs.YtphbfkncimifoaaDoor
/- The law TokenSmall, plain. -/
open Go Go.Ab

structure SX where
  bn : Bool
  b : List AV
  i4 : Int
  ln : Bool
  l : List TOut
  k : Nat
  j0 : Junk
  j1 : Junk
def encSx (a : SX) : Slaw23_TokenSmall_1 := .s0 a.bn a.b a.i4 a.ln (a.l.map outAV) a.k a.j0.1 a.j0.2.1 a.j0.2.2.1 a.j0.2.2.2.1 a.j0.2.2.2.2 a.j1.1 a.j1.2.1 a.j1.2.2.1 a.j1.2.2.2.1 a.j1.2.2.2.2
def outSx (a : SX) : Olaw23_TokenSmall_1 := .x1 a.bn a.b a.i4 a.j0.1 a.j0.2.1 a.j0.2.2.1 a.j0.2.2.2.1 a.j0.2.2.2.2 a.j1.1 a.j1.2.1 a.j1.2.2.1 a.j1.2.2.2.1 a.j1.2.2.2.2
abbrev PSx (a : SX) : Prop := a.k ≤ a.l.length ∧ a.l.length ≤ 1000000 ∧ ∀ o ∈ a.l, GoodO o
theorem encSx_inj {a b : SX} (h : encSx a = encSx b) : outSx b = outSx a := by
  obtain ⟨bn, b1, i4, ln, l, k, ⟨x1, x2, x3, x4, x5⟩, ⟨y1, y2, y3, y4, y5⟩⟩ := a
  obtain ⟨bn', b1', i4', ln', l', k', ⟨x1', x2', x3', x4', x5'⟩, ⟨y1', y2', y3', y4', y5'⟩⟩ := b
  simp only [encSx, Slaw23_TokenSmall_1.s0.injEq] at h
  obtain ⟨rfl, rfl, rfl, rfl, _, _, rfl, rfl, rfl, rfl, rfl, rfl, rfl, rfl, rfl, rfl⟩ := h
  rfl
theorem good_cond {o : TOut} (h : GoodO o) : (!((o.1 == 4) == ((((svL o.2).length : Nat) : Int).tmod 2 == 1))) = (o.1 == 1) := by
  obtain ⟨h1, h2, h3, h4⟩ := h
  have e := nat_mod2 o.2.length 1
  rw [show ((1 : Nat) : Int) = 1 from rfl] at e
  rw [svL_len, e]
  by_cases a1 : o.1 = 1
  · have h5 := h3.1 (.inl a1)
    rw [a1, h5]
    rfl
  · by_cases a4 : o.1 = 4
    · have h5 := h3.1 (.inr a4)
      rw [a4, h5]
      rfl
    · have h5 : ¬ o.2.length % 2 = 1 := fun h => by
        rcases h3.2 h with h | h
        · exact a1 h
        · exact a4 h
      rw [show (o.1 == 1) = false by simpa using a1, show (o.1 == 4) = false by simpa using a4, show (o.2.length % 2 == 1) = false by simpa using h5]
      rfl
theorem l_Sx (K : PureK) {a : SX} (h : PSx a) : loopF (Rlaw23_TokenSmall_1 K some) encSx PSx outSx (encSx a) = some (outSx a) := by
  refine loopF_eq (fun a => a.l.length - a.k) ?_ (fun a b h => encSx_inj h) h
  rintro ⟨bn, b, i4, ln, l, k, j0, j1⟩ rec ⟨h1, h2, h3⟩ hrec
  simp only [] at h1 h2 h3 hrec
  have hl : (((l.map outAV).length : Nat) : Int) = (l.length : Int) := by rw [List.length_map]
  rw [show encSx ⟨bn, b, i4, ln, l, k, j0, j1⟩ = .s0 bn b i4 ln (l.map outAV) k j0.1 j0.2.1 j0.2.2.1 j0.2.2.2.1 j0.2.2.2.2 j1.1 j1.2.1 j1.2.2.1 j1.2.2.2.1 j1.2.2.2.2 from rfl]
  simp only [Rlaw23_TokenSmall_1]
  by_cases hk : k < l.length
  · have hg := h3 _ (List.getElem_mem hk)
    have hgc := good_cond hg
    obtain ⟨g1, g2, g3, g4⟩ := hg
    have t1 : ∀ {β : Type} (x y : Option β), br (decide (0 ≤ (k : Int))) x y = x := fun x y => br_yesD (by omega)
    have t2 : ∀ {β : Type} (x y : Option β), br (decide ((k : Int) < (((l.map outAV).length : Nat) : Int))) x y = x := fun x y => br_yesD (by rw [hl]; omega)
    simp only [t1, t2, Int.toNat_natCast, outs_get l k hk, optK_s, outAV, asAgg2, List.getD_cons_zero, List.getD_cons_succ, asInt_v, asLst_v]
    rw [br_noD (show ¬ l[k].1 < 1 by omega), br_noD (show ¬ l[k].1 > 4 by omega), decide_eq_false (show ¬ (((svL l[k].2).length : Nat) : Int) > 9 by rw [svL_len]; omega)]
    have key : br (l[k].1 == 1) (br (!true == ((((svL l[k].2).length : Nat) : Int).tmod 2 == 1)) (some (bv true)) (some (bv false))) (br (!(l[k].1 == 4) == ((((svL l[k].2).length : Nat) : Int).tmod 2 == 1)) (some (bv true)) (some (bv false))) = some (bv false) := by
      cases hc : l[k].1 == 1 with
      | true =>
        have a1 : l[k].1 = 1 := by simpa using hc
        have h5 := g3.1 (.inl a1)
        have e := nat_mod2 l[k].2.length 1
        rw [show ((1 : Nat) : Int) = 1 from rfl] at e
        rw [br_t, svL_len, e, h5]
        rfl
      | false =>
        rw [br_f, hgc, hc]
        rfl
    rw [key]
    simp only [optK_s, asBool_v, br_f]
    rw [w64_id (by omega) (by omega), show (k : Int) + 1 = ((k + 1 : Nat) : Int) by omega]
    exact hrec ⟨bn, b, i4, ln, l, k + 1, j0, j1⟩ ⟨hk, h2, h3⟩ (by simp only []; omega)
  · rw [br_noD (by rw [hl]; omega)]
    rfl

structure MX where
  bn : Bool
  b : List UInt8
  j : Nat
  st : Bool
  n : Bool
  i : TIn
def encMx (a : MX) : Slaw23_TokenSmall_0 := match a.st with
  | false => .s0 a.bn (uvs a.b) a.j (bs a.i.text) a.i.mode a.i.need
  | true => .s1 a.bn (uvs a.b) a.j a.n (svL a.i.ps) (bs a.i.text) a.i.mode a.i.need
def finMx (o : Olaw23_TokenSmall_0) : Option AV := match o with
  | .x0 t _ _ _ _ _ _ _ _ _ _ => some (bv t)
  | .x1 _ _ _ => some (bv true)
  | .x2 _ _ _ _ _ => some (bv true)
abbrev PMx (a : MX) : Prop := RightI a.i ∧ a.b.length ≤ 5000 ∧ a.j ≤ 6000 ∧ (a.st = false → a.i.ps = [])
abbrev QMx (a : MX) (o : Olaw23_TokenSmall_0) : Prop := finMx o = some (bv true)
theorem right_sizes {i : TIn} (h : RightI i) : (i.mode = 0 → i.text.length ≤ 400) ∧ i.text.length ≤ 2000 ∧ i.ps.length ≤ 8 := by
  obtain ⟨h1, h2, h⟩ := h
  rcases h with ⟨m, a, b, d⟩ | ⟨m, a, a2, b, d⟩ | ⟨m, a, b, d⟩ | ⟨m, a, a2, b, d⟩
  · exact ⟨fun _ => b, by omega, h1⟩
  · exact ⟨fun h => by omega, by omega, h1⟩
  · exact ⟨fun h => by rw [b]; simp, by rw [b]; simp, h1⟩
  · exact ⟨fun h => by rw [b]; simp, by rw [b]; simp, h1⟩
theorem l_Mx {a : MX} (h : PMx a) : ∃ o, QMx a o ∧ loopQ (Rlaw23_TokenSmall_0 (tabK tbL) (loopF (Rlaw23_TokenSmall_1 (tabK tbL) some) encSx PSx outSx) some) encMx PMx QMx (encMx a) = some o := by
  refine loopQ_eq (fun a => 5000 - a.j) ?_ (fun a b h o ho => ho) h
  rintro ⟨bn, b, j, st, n, i⟩ rec ⟨h1, h2, h3, h4⟩ hrec
  simp only [] at h1 h2 h3 h4 hrec
  have hL : (((uvs b).length : Nat) : Int) = (b.length : Int) := by rw [uvs_len]
  by_cases hj : j < b.length
  · have hw : w64 ((j : Int) + 100) = ((j + 100 : Nat) : Int) := by rw [w64_id (by omega) (by omega)]; omega
    have hmin := min_ite (L := j + 100) (k := b.length) hw hL
    have hle : min (j + 100) b.length ≤ b.length := Nat.min_le_right _ _
    obtain ⟨p, hp⟩ : ∃ p, p = (b.take (min (j + 100) b.length)).drop j := ⟨_, rfl⟩
    have hrows : List.drop ((j : Int)).toNat (List.take (((min (j + 100) b.length : Nat) : Int)).toNat (uvs b)) = uvs p := by
      rw [Int.toNat_natCast, Int.toNat_natCast, uvs_take, uvs_drop, hp]
    have hpl : p.length ≤ 5000 := by rw [hp]; simp; omega
    have hPI := right_PI h1
    have hR := right_feed p h1
    obtain ⟨g1, g2⟩ := good_feed p h1
    obtain ⟨s1, s2, s3⟩ := right_sizes hR
    have go : ∀ n0, ∃ k1, tabK tbL f_token_Feed [i.av n0, AV.lst 1 bn (uvs p)] = some (.tup [(feedS i p).1.av k1, outsAV (feedS i p).2]) := by
      intro n0
      obtain ⟨k1, hk⟩ := k_tFeed (T := tbL) rfl n0 i bn p ⟨by have := hPI.1; simp only []; omega, by have := hPI.2.1; simp only []; omega, by simp only []; omega⟩
      rw [feedR_ok h1] at hk
      exact ⟨k1, hk⟩
    have hright : ∀ k1, tabK tbL f_token_Right [(feedS i p).1.av k1] = some (bv true) := by
      intro k1
      rw [k_tRight (T := tbL) rfl k1 _ (by omega), rightB_yes hR]
    generalize hF : feedS i p = F at *
    obtain ⟨⟨ps', t', mo', ne'⟩, os⟩ := F
    simp only [] at g1 g2 s1 s2 s3 hR
    have hchk : ∀ (x : AV), br (mo' == 0) (br (decide ((((bs t').size : Nat) : Int) > 400)) (some (bv true)) (br (decide ((((bs t').size : Nat) : Int) > 2000)) (some (bv true)) (some (bv (decide ((((svL ps').length : Nat) : Int) > 8)))))) (br (decide ((((bs t').size : Nat) : Int) > 2000)) (some (bv true)) (some (bv (decide ((((svL ps').length : Nat) : Int) > 8))))) = some (bv false) := by
      intro x
      rw [br_noD (show ¬ (((bs t').size : Nat) : Int) > 2000 by rw [bs_size]; omega), decide_eq_false (show ¬ (((svL ps').length : Nat) : Int) > 8 by rw [svL_len]; omega)]
      by_cases hm : mo' = 0
      · rw [br_pos (by simp [hm]), br_noD (by rw [bs_size]; have := s1 hm; omega)]
      · rw [br_neg (by simpa using hm)]
    have hin : ∀ k1, loopF (Rlaw23_TokenSmall_1 (tabK tbL) some) encSx PSx outSx (.s0 bn (uvs b) j os.isEmpty (os.map outAV) 0 k1 (svL ps') (bs t') mo' ne' k1 (svL ps') (bs t') mo' ne') = some (.x1 bn (uvs b) j k1 (svL ps') (bs t') mo' ne' k1 (svL ps') (bs t') mo' ne') := by
      intro k1
      exact l_Sx (tabK tbL) (a := ⟨bn, uvs b, j, os.isEmpty, os, 0, (k1, svL ps', bs t', mo', ne'), (k1, svL ps', bs t', mo', ne')⟩) ⟨by simp, by simp only []; omega, g2⟩
    have hnext : ∀ k1, ∃ o, QMx ⟨bn, b, j, st, n, i⟩ o ∧ rec (.s1 bn (uvs b) (w64 ((j : Int) + 100)) k1 (svL ps') (bs t') mo' ne') = some o := by
      intro k1
      rw [hw]
      exact hrec ⟨bn, b, j + 100, true, k1, ⟨ps', t', mo', ne'⟩⟩ ⟨hR, h2, by simp only []; omega, fun h => by cases h⟩ (by simp only []; omega)
    cases st with
    | false =>
      have hps := h4 rfl
      obtain ⟨ps, t, mo, ne⟩ := i
      simp only [] at hps
      subst hps
      obtain ⟨k1, hk⟩ := go true
      have hk' : tabK tbL f_token_Feed [AV.agg [AV.lst 1 true [], sv (bs t), iv mo, iv ne], AV.lst 1 bn (uvs p)] = _ := hk
      have hr' : tabK tbL f_token_Right [AV.agg [AV.lst 1 k1 (svL ps'), sv (bs t'), iv mo', iv ne']] = some (bv true) := hright k1
      rw [show encMx ⟨bn, b, j, false, n, ⟨[], t, mo, ne⟩⟩ = .s0 bn (uvs b) j (bs t) mo ne from rfl]
      simp only [Rlaw23_TokenSmall_0]
      rw [hmin, br_yesD (by rw [hL]; omega), br_yesD (by omega), br_yesD (by omega), br_yesD (by rw [hL]; omega), hrows, hk']
      simp only [optK_s, asTup2, List.getD_cons_zero, List.getD_cons_succ, TIn.av, asAgg4, asLst_v, asStr_v, asInt_v, outsAV_lst]
      rw [hr']
      simp only [optK_s, asBool_v, Bool.not_true, br_f]
      rw [hchk .dead]
      simp only [optK_s, asBool_v, br_f]
      rw [hin k1]
      simp only [optK_s, Olaw23_TokenSmall_1.k]
      exact hnext k1
    | true =>
      obtain ⟨k1, hk⟩ := go n
      have hk' : tabK tbL f_token_Feed [AV.agg [AV.lst 1 n (svL i.ps), sv (bs i.text), iv i.mode, iv i.need], AV.lst 1 bn (uvs p)] = _ := hk
      have hr' : tabK tbL f_token_Right [AV.agg [AV.lst 1 k1 (svL ps'), sv (bs t'), iv mo', iv ne']] = some (bv true) := hright k1
      rw [show encMx ⟨bn, b, j, true, n, i⟩ = .s1 bn (uvs b) j n (svL i.ps) (bs i.text) i.mode i.need from rfl]
      simp only [Rlaw23_TokenSmall_0]
      rw [hmin, br_yesD (by rw [hL]; omega), br_yesD (by omega), br_yesD (by omega), br_yesD (by rw [hL]; omega), hrows, hk']
      simp only [optK_s, asTup2, List.getD_cons_zero, List.getD_cons_succ, TIn.av, asAgg4, asLst_v, asStr_v, asInt_v, outsAV_lst]
      rw [hr']
      simp only [optK_s, asBool_v, Bool.not_true, br_f]
      rw [hchk .dead]
      simp only [optK_s, asBool_v, br_f]
      rw [hin k1]
      simp only [optK_s, Olaw23_TokenSmall_1.k]
      exact hnext k1
  · cases st with
    | false =>
      rw [show encMx ⟨bn, b, j, false, n, i⟩ = .s0 bn (uvs b) j (bs i.text) i.mode i.need from rfl]
      simp only [Rlaw23_TokenSmall_0]
      rw [br_noD (by rw [hL]; omega)]
      exact ⟨_, rfl, rfl⟩
    | true =>
      rw [show encMx ⟨bn, b, j, true, n, i⟩ = .s1 bn (uvs b) j n (svL i.ps) (bs i.text) i.mode i.need from rfl]
      simp only [Rlaw23_TokenSmall_0]
      rw [br_noD (by rw [hL]; omega)]
      exact ⟨_, rfl, rfl⟩
theorem t_Small (bn : Bool) (b : List UInt8) : Rlaw23_TokenSmall (tabK tbL) (loopQ (Rlaw23_TokenSmall_0 (tabK tbL) (loopF (Rlaw23_TokenSmall_1 (tabK tbL) some) encSx PSx outSx) some) encMx PMx QMx) bn (uvs b) = some (bv true) := by
  unfold Rlaw23_TokenSmall
  rw [show tabK tbL f_law23_alive [] = some (bv true) from rfl, uvs_len]
  simp only [optK_s, asBool_v, Bool.not_true, br_f]
  by_cases c1 : b.length > 5000
  · rw [br_yesD (by omega)]
  rw [br_noD (by omega), emp]
  obtain ⟨o, ho, hl⟩ := l_Mx (a := ⟨bn, b, 0, false, true, emptyI⟩) ⟨right_empty, by simp only []; omega, by simp, fun _ => rfl⟩
  rw [show encMx ⟨bn, b, 0, false, true, emptyI⟩ = .s0 bn (uvs b) 0 (bs []) 0 0 from rfl] at hl
  rw [hl]
  simp only [optK_s]
  have ho : finMx o = some (bv true) := ho
  cases o <;> exact ho
end Go.Proofs.YtphbfkncimifoaaDoor
