import Derived.Test.YtphbfkncimifoaaDoorTokU
import Derived.Test.YtphbfkncimifoaaDoorToldK3
set_option linter.unusedVariables false
set_option linter.unusedSimpArgs false
set_option maxRecDepth 100000
namespace Go.Proofs.YtphbfkncimifoaaDoor
/- The laws TokenFeeds and TokenPieces, plain; the fixed fact. -/
open Go Go.Ab

theorem feedR_ok {i : TIn} (h : RightI i) (b : List UInt8) : feedR i b = feedS i b := by
  unfold feedR
  rw [rightB_yes h]
theorem sameI_self (i : TIn) : sameI i i = true := by simp [sameI]
theorem feedR_ps {i : TIn} (b : List UInt8) (h : i.ps.length ≤ 1000) : (feedR i b).1.ps.length ≤ 1000 := by
  unfold feedR
  cases hr : rightB i with
  | true => exact (right_PI (right_feed b (rightB_iff.1 hr))).1
  | false => exact h
theorem feedR_outs (i : TIn) (b : List UInt8) : (feedR i b).2.length ≤ b.length ∧ ∀ o ∈ (feedR i b).2, o.2.length ≤ 1000000000 := by
  unfold feedR
  cases hr : rightB i with
  | true =>
    obtain ⟨h1, h2⟩ := good_feed b (rightB_iff.1 hr)
    exact ⟨h1, fun o ho => by have := (h2 o ho).2.2.2; omega⟩
  | false => exact ⟨by simp, fun o ho => by simp at ho⟩
/-! the fixed fact -/
noncomputable def tbAl : Tab := [(f_token_Feed, E_tFeed)]
theorem tbAl_ok : TabOk X tbAl := tab_cons callQ_ok tab_nil
def txAl : List UInt8 := [97, 32, 123, 51, 125, 13, 10, 120, 121, 122, 13, 10, 98]
theorem feed_al : feedS emptyI txAl = (⟨[], [98], 0, 0⟩, [(2, []), (1, [[97, 32], [120, 121, 122], []])]) := by kernel_rfl
theorem pc_alive : PureCall X f_law23_alive [] (bv true) := by
  refine pclaw23_alive (tab_ok _ tbAl_ok) ?_
  unfold Rlaw23_alive
  obtain ⟨k, hk⟩ := k_tFeed (T := tbAl) rfl true emptyI false txAl ⟨by simp [emptyI], by simp [emptyI], by simp [txAl]⟩
  rw [feedR_ok right_empty, feed_al] at hk
  have hk' : tabK tbAl f_token_Feed [AV.agg [AV.lst 1 true [], sv ({ data := #[] } : ByteArray), iv 0, iv 0], AV.lst 1 false [uv 97, uv 32, uv 123, uv 51, uv 125, uv 13, uv 10, uv 120, uv 121, uv 122, uv 13, uv 10, uv 98]] = _ := hk
  rw [hk']
  rfl
def e_al : List AV → Option AV
  | [] => some (bv true)
  | _ => none
theorem e_al_ok (xs : List AV) (v : AV) (h : e_al xs = some v) : PureCall X f_law23_alive xs v := by
  unfold e_al at h
  split at h
  · cases h; exact pc_alive
  · cases h

/-! TokenFeeds -/
noncomputable def tbL : Tab := [(f_law23_alive, e_al), (f_token_Feed, E_tFeed), (f_ref23_Feed, E_rFeed), (f_ref23_Same, E_rSame), (f_ref23_Outs, E_Outs), (f_token_Right, E_tRight), (f_ref23_Right, E_rRight), (f_token_Same, E_tSame)]
theorem tbL_ok : TabOk X tbL := tab_cons e_al_ok (tab_cons callQ_ok (tab_cons callQ_ok (tab_cons callQ_ok (tab_cons callQ_ok (tab_cons callQ_ok (tab_cons callQ_ok (tab_cons callQ_ok tab_nil)))))))
theorem t_Feeds (n : Bool) (i : TIn) (m : Bool) (b : List UInt8) : Rlaw23_TokenFeeds (tabK tbL) n (svL i.ps) (bs i.text) i.mode i.need m (uvs b) = some (bv true) := by
  unfold Rlaw23_TokenFeeds
  rw [show tabK tbL f_law23_alive [] = some (bv true) from rfl, uvs_len, bs_size, svL_len]
  simp only [optK_s, asBool_v, Bool.not_true, br_f]
  by_cases c1 : b.length > 5000
  · rw [br_yesD (by omega)]; rfl
  rw [br_noD (by omega)]
  by_cases c2 : i.text.length > 5000
  · rw [br_yesD (by omega)]; rfl
  rw [br_noD (by omega)]
  by_cases c3 : i.ps.length > 20
  · rw [decide_eq_true (show ((i.ps.length : Nat) : Int) > 20 by omega)]; rfl
  rw [decide_eq_false (show ¬ ((i.ps.length : Nat) : Int) > 20 by omega)]
  simp only [optK_s, asBool_v, br_f]
  have hPF : PF (n, i, m, b) := ⟨by simp only []; omega, by simp only []; omega, by simp only []; omega⟩
  obtain ⟨k1, h1⟩ := k_tFeed (T := tbL) rfl n i m b hPF
  obtain ⟨k2, h2⟩ := k_rFeed (T := tbL) rfl n i m b hPF
  have h1' : tabK tbL f_token_Feed [AV.agg [AV.lst 1 n (svL i.ps), sv (bs i.text), iv i.mode, iv i.need], AV.lst 1 m (uvs b)] = _ := h1
  have h2' : tabK tbL f_ref23_Feed [AV.agg [AV.lst 1 n (svL i.ps), sv (bs i.text), iv i.mode, iv i.need], AV.lst 1 m (uvs b)] = _ := h2
  rw [h1', h2']
  have hps := feedR_ps (i := i) b (by omega)
  obtain ⟨o1, o2⟩ := feedR_outs i b
  generalize hF : feedR i b = F at *
  obtain ⟨⟨ps', t', mo', ne'⟩, os⟩ := F
  simp only [] at hps o1 o2
  simp only [optK_s, asTup2, List.getD_cons_zero, List.getD_cons_succ, TIn.av, asAgg4, asLst_v, asStr_v, asInt_v, outsAV_lst]
  have e1 : tabK tbL f_ref23_Same [AV.agg [AV.lst 1 k1 (svL ps'), sv (bs t'), iv mo', iv ne'], AV.agg [AV.lst 1 k2 (svL ps'), sv (bs t'), iv mo', iv ne']] = some (bv true) := by
    have := k_rSame (T := tbL) rfl k1 ⟨ps', t', mo', ne'⟩ k2 ⟨ps', t', mo', ne'⟩ (by simp only []; omega)
    rw [sameI_self] at this
    exact this
  have e2 : tabK tbL f_ref23_Outs [AV.lst 2 os.isEmpty (os.map outAV), AV.lst 2 os.isEmpty (os.map outAV)] = some (bv true) := by
    rw [k_Outs (T := tbL) rfl _ os _ os (by omega) o2, beq_self_eq_true]
  have e3 : tabK tbL f_token_Right [AV.agg [AV.lst 1 n (svL i.ps), sv (bs i.text), iv i.mode, iv i.need]] = some (bv (rightB i)) := k_tRight (T := tbL) rfl n i (by omega)
  have e4 : tabK tbL f_ref23_Right [AV.agg [AV.lst 1 n (svL i.ps), sv (bs i.text), iv i.mode, iv i.need]] = some (bv (rightB i)) := k_rRight (T := tbL) rfl n i (by omega) (by omega)
  have e5 : tabK tbL f_token_Same [AV.agg [AV.lst 1 n (svL i.ps), sv (bs i.text), iv i.mode, iv i.need], AV.agg [AV.lst 1 k1 (svL ps'), sv (bs t'), iv mo', iv ne']] = some (bv (sameI i ⟨ps', t', mo', ne'⟩)) := k_tSame (T := tbL) rfl n i k1 ⟨ps', t', mo', ne'⟩ (by omega)
  have e6 : tabK tbL f_ref23_Same [AV.agg [AV.lst 1 n (svL i.ps), sv (bs i.text), iv i.mode, iv i.need], AV.agg [AV.lst 1 k1 (svL ps'), sv (bs t'), iv mo', iv ne']] = some (bv (sameI i ⟨ps', t', mo', ne'⟩)) := k_rSame (T := tbL) rfl n i k1 ⟨ps', t', mo', ne'⟩ (by omega)
  have e7 : tabK tbL f_token_Right [AV.agg [AV.lst 1 k1 (svL ps'), sv (bs t'), iv mo', iv ne']] = some (bv (rightB ⟨ps', t', mo', ne'⟩)) := k_tRight (T := tbL) rfl k1 ⟨ps', t', mo', ne'⟩ (by simp only []; omega)
  rw [e1, e2, e3, e4, e5, e6, e7]
  simp only [optK_s, asBool_v, br_t, beq_self_eq_true]
  cases hr : rightB i with
  | false => rfl
  | true =>
    have hR := right_feed b (rightB_iff.1 hr)
    rw [← feedR_ok (rightB_iff.1 hr), hF] at hR
    rw [rightB_yes hR]
    rfl

/-! TokenPieces -/
def cutAV (c : Nat) : AV := .v (.int .u16 c)
theorem cuts_inj : ∀ {x y : List Nat}, x.map cutAV = y.map cutAV → x = y
  | [], [], _ => rfl
  | [], y :: ys, h => by simp at h
  | x :: xs, [], h => by simp at h
  | x :: xs, y :: ys, h => by
    simp only [List.map_cons, List.cons.injEq, cutAV, AV.v.injEq, Value.int.injEq, true_and] at h
    have : x = y := by omega
    rw [this, cuts_inj (x := xs) (y := ys) h.2]
structure PX where
  bn : Bool
  b : List UInt8
  cn : Bool
  cuts : List Nat
  rn : Bool
  rest : List UInt8
  j : Nat
  n : Bool
  i : TIn
  st : Option (Option (Junk × List TOut))
def PX.outs (a : PX) : List TOut := match a.st with
  | some (some (_, l)) => l
  | _ => []
def encPx (a : PX) : Slaw23_TokenPieces_0 := match a.st with
  | none => .s0 a.bn (uvs a.b) a.cn (a.cuts.map cutAV) a.rn (uvs a.rest) a.j (bs a.i.text) a.i.mode a.i.need
  | some none => .s1 a.bn (uvs a.b) a.cn (a.cuts.map cutAV) a.rn (uvs a.rest) a.j a.n (svL a.i.ps) (bs a.i.text) a.i.mode a.i.need
  | some (some (y, l)) => .s2 a.bn (uvs a.b) a.cn (a.cuts.map cutAV) a.rn (uvs a.rest) a.j a.n (svL a.i.ps) (bs a.i.text) a.i.mode a.i.need y.1 y.2.1 y.2.2.1 y.2.2.2.1 y.2.2.2.2 (l.map outAV)
abbrev PPx (a : PX) : Prop := a.j ≤ a.cuts.length ∧ a.cuts.length ≤ 200 ∧ (∀ c ∈ a.cuts, c < 65536) ∧ RightI a.i ∧ a.rest.length + a.outs.length ≤ 5000 ∧ (a.st = none → a.i.ps = []) ∧ ∀ y l, a.st = some (some (y, l)) → l ≠ []
/-- What lies behind the loop: a part of the rest is fed. -/
abbrev QPx (a : PX) (o : Olaw23_TokenPieces_0) : Prop := ∃ pre rest' rn' n', a.rest = pre ++ rest' ∧
  ((o = .x0 a.bn (uvs a.b) rn' (uvs rest') (bs (feedS a.i pre).1.text) (feedS a.i pre).1.mode (feedS a.i pre).1.need ∧ (feedS a.i pre).1.ps = [] ∧ a.outs ++ (feedS a.i pre).2 = []) ∨
   (o = .x1 a.bn (uvs a.b) rn' (uvs rest') n' (svL (feedS a.i pre).1.ps) (bs (feedS a.i pre).1.text) (feedS a.i pre).1.mode (feedS a.i pre).1.need ∧ a.outs ++ (feedS a.i pre).2 = []) ∨
   (∃ y1 y2 y3 y4 y5, o = .x2 a.bn (uvs a.b) rn' (uvs rest') n' (svL (feedS a.i pre).1.ps) (bs (feedS a.i pre).1.text) (feedS a.i pre).1.mode (feedS a.i pre).1.need y1 y2 y3 y4 y5 ((a.outs ++ (feedS a.i pre).2).map outAV) ∧ a.outs ++ (feedS a.i pre).2 ≠ []))
theorem encPx_inj {a b : PX} (h : encPx a = encPx b) (o : Olaw23_TokenPieces_0) (hq : QPx b o) (hab : (a.st = none → a.i.ps = []) ∧ (b.st = none → b.i.ps = [])) : QPx a o := by
  obtain ⟨bn, b1, cn, cuts, rn, rest, j, n, ⟨ps, t, mo, ne⟩, st⟩ := a
  obtain ⟨bn', b1', cn', cuts', rn', rest', j', n', ⟨ps', t', mo', ne'⟩, st'⟩ := b
  match st, st' with
  | none, none =>
    have p1 : ps = [] := hab.1 rfl
    have p2 : ps' = [] := hab.2 rfl
    subst p1
    subst p2
    simp only [encPx, Slaw23_TokenPieces_0.s0.injEq] at h
    obtain ⟨rfl, h1, rfl, h2, rfl, h3, h4, h5, rfl, rfl⟩ := h
    rw [uvs_inj h1, uvs_inj h3, bs_inj h5] at *
    exact hq
  | some none, some none =>
    simp only [encPx, Slaw23_TokenPieces_0.s1.injEq] at h
    obtain ⟨rfl, h1, rfl, h2, rfl, h3, h4, rfl, h6, h5, rfl, rfl⟩ := h
    rw [uvs_inj h1, uvs_inj h3, bs_inj h5, svL_inj h6] at *
    exact hq
  | some (some y), some (some y') =>
    obtain ⟨y, l⟩ := y
    obtain ⟨y', l'⟩ := y'
    simp only [encPx, Slaw23_TokenPieces_0.s2.injEq] at h
    obtain ⟨rfl, h1, rfl, h2, rfl, h3, h4, rfl, h6, h5, rfl, rfl, _, _, _, _, _, h7⟩ := h
    have e := outs_inj h7
    subst e
    rw [uvs_inj h1, uvs_inj h3, bs_inj h5, svL_inj h6] at *
    exact hq
  | none, some none => simp [encPx] at h
  | none, some (some _) => simp [encPx] at h
  | some none, none => simp [encPx] at h
  | some none, some (some _) => simp [encPx] at h
  | some (some _), none => simp [encPx] at h
  | some (some _), some none => simp [encPx] at h
theorem loopQ_eqP {α S O : Type} {R : (S → Option O) → S → Option O} {enc : α → S} {P : α → Prop} {Q : α → O → Prop} (μ : α → Nat)
    (step : ∀ (a : α) (rec : S → Option O), P a → (∀ a', P a' → μ a' < μ a → ∃ o, Q a' o ∧ rec (enc a') = some o) → ∃ o, Q a o ∧ R rec (enc a) = some o)
    (inj : ∀ a b, P a → P b → enc a = enc b → ∀ o, Q b o → Q a o) {a : α} (h : P a) : ∃ o, Q a o ∧ loopQ R enc P Q (enc a) = some o := by
  obtain ⟨o, hq, hf⟩ := loop_rel μ step _ a h (Nat.lt_succ_self _)
  have hex : ∃ o, (∃ m, fuelRec R m (enc a) = some o) ∧ ∃ a', enc a = enc a' ∧ P a' ∧ Q a' o := ⟨o, ⟨_, hf⟩, a, rfl, h, hq⟩
  refine ⟨hex.choose, ?_, ?_⟩
  · obtain ⟨_, a', h1, h2, h3⟩ := hex.choose_spec
    exact inj a a' h h2 h1 _ h3
  · unfold loopQ
    rw [dif_pos hex]
theorem qpx_step {a a' : PX} {p : List UInt8} {o : Olaw23_TokenPieces_0} (h : QPx a' o) (hb : a'.b = a.b) (hbn : a'.bn = a.bn) (hrest : a.rest = p ++ a'.rest) (hi : a'.i = (feedS a.i p).1) (ho : a'.outs = a.outs ++ (feedS a.i p).2) : QPx a o := by
  obtain ⟨pre, rest', rn', n', h1, h2⟩ := h
  refine ⟨p ++ pre, rest', rn', n', by rw [hrest, h1, List.append_assoc], ?_⟩
  rw [feedS_app, ← hi]
  simp only []
  rw [← List.append_assoc, ← ho, ← hb, ← hbn]
  exact h2
theorem l_Px {a : PX} (h : PPx a) : ∃ o, QPx a o ∧ loopQ (Rlaw23_TokenPieces_0 (tabK tbL) some) encPx PPx QPx (encPx a) = some o := by
  refine loopQ_eqP (fun a => a.cuts.length - a.j) ?_ (fun a b ha hb h o ho => encPx_inj h o ho ⟨ha.2.2.2.2.2.1, hb.2.2.2.2.2.1⟩) h
  rintro ⟨bn, b, cn, cuts, rn, rest, j, n, i, st⟩ rec ⟨h1, h2, h3, h4, h5, h6, h7⟩ hrec
  simp only [] at h1 h2 h3 h4 h5 h6 h7 hrec
  have hcl : (((cuts.map cutAV).length : Nat) : Int) = (cuts.length : Int) := by rw [List.length_map]
  by_cases hj : j < cuts.length
  · have hc := h3 _ (List.getElem_mem hj)
    have hget : (cuts.map cutAV)[((j : Int)).toNat]? = some (cutAV cuts[j]) := by simp [hj]
    have hrl : rest.length ≤ 5000 := by omega
    have hmod : (w64 ((cuts[j] : Nat) : Int)).tmod (w64 ((((uvs rest).length : Nat) : Int) + 1)) = ((cuts[j] % (rest.length + 1) : Nat) : Int) := by
      rw [uvs_len, w64_id (by omega) (by omega), w64_id (by omega) (by omega), Int.tmod_eq_emod_of_nonneg (by omega), Int.natCast_emod]
      rfl
    have hz : (w64 ((((uvs rest).length : Nat) : Int) + 1) == 0) = false := by
      rw [uvs_len, w64_id (by omega) (by omega)]
      simp
      omega
    obtain ⟨k, hk⟩ : ∃ k, k = cuts[j] % (rest.length + 1) := ⟨_, rfl⟩
    rw [← hk] at hmod
    have hkl : k ≤ rest.length := by have := Nat.mod_lt cuts[j] (show 0 < rest.length + 1 by omega); omega
    have hsplit : rest = rest.take k ++ rest.drop k := (List.take_append_drop k rest).symm
    have htl : (rest.take k).length = k := by simp; omega
    have hPI := right_PI h4
    obtain ⟨n', hf⟩ := k_tFeed (T := tbL) rfl n i rn (rest.take k) ⟨by have := hPI.1; simp only []; omega, by have := hPI.2.1; simp only []; omega, by simp only []; omega⟩
    obtain ⟨g1, g2⟩ := good_feed (rest.take k) h4
    rw [htl] at g1
    rw [feedR_ok h4] at hf
    have hR := right_feed (rest.take k) h4
    match st with
    | none =>
      have hps := h6 rfl
      obtain ⟨ps, t, mo, ne⟩ := i
      simp only [] at hps
      subst hps
      rw [show encPx ⟨bn, b, cn, cuts, rn, rest, j, n, ⟨[], t, mo, ne⟩, none⟩ = .s0 bn (uvs b) cn (cuts.map cutAV) rn (uvs rest) j (bs t) mo ne from rfl]
      obtain ⟨n', hf⟩ := k_tFeed (T := tbL) rfl true ⟨[], t, mo, ne⟩ rn (rest.take k) ⟨by simp, by have := hPI.2.1; simp only [] at this ⊢; omega, by simp only []; omega⟩
      rw [feedR_ok h4] at hf
      have hf' : tabK tbL f_token_Feed [AV.agg [AV.lst 1 true [], sv (bs t), iv mo, iv ne], AV.lst 1 rn (uvs (rest.take k))] = _ := hf
      simp only [Rlaw23_TokenPieces_0]
      rw [br_yesD (by rw [hcl]; omega), br_yesD (by omega), br_yesD (by rw [hcl]; omega), hget]
      simp only [optK_s, cutAV, asInt_v]
      rw [hmod, br_neg hz, br_yesD (by omega), br_yesD (by rw [uvs_len]; omega), Int.toNat_natCast, uvs_take, uvs_drop, hf']
      simp only [optK_s, asTup2, List.getD_cons_zero, List.getD_cons_succ, TIn.av, asAgg4, asLst_v, asStr_v, asInt_v, outsAV_lst]
      rw [br_yesD (by omega), br_yesD (by rw [uvs_len]; omega), w64_id (by omega) (by omega), show (j : Int) + 1 = ((j + 1 : Nat) : Int) by omega, List.isEmpty_map]
      cases hq : (feedS ⟨[], t, mo, ne⟩ (rest.take k)).2 with
      | nil =>
        rw [List.isEmpty_nil, br_t]
        obtain ⟨o, ho, hr⟩ := hrec ⟨bn, b, cn, cuts, rn, rest.drop k, j + 1, n', (feedS ⟨[], t, mo, ne⟩ (rest.take k)).1, some none⟩ ⟨hj, h2, h3, hR, by simp [PX.outs]; omega, fun h => (by cases h), fun y l h => (by cases h)⟩ (by simp only []; omega)
        exact ⟨o, qpx_step ho rfl rfl hsplit rfl (by simp [PX.outs, hq]), hr⟩
      | cons q qs =>
        rw [List.isEmpty_cons, br_f]
        rw [hq] at g1
        simp only [List.length_cons] at g1
        rw [br_pos (lenOks_of (by omega) (by simp; omega))]
        obtain ⟨o, ho, hr⟩ := hrec ⟨bn, b, cn, cuts, rn, rest.drop k, j + 1, n', (feedS ⟨[], t, mo, ne⟩ (rest.take k)).1, some (some ((n', svL (feedS ⟨[], t, mo, ne⟩ (rest.take k)).1.ps, bs (feedS ⟨[], t, mo, ne⟩ (rest.take k)).1.text, (feedS ⟨[], t, mo, ne⟩ (rest.take k)).1.mode, (feedS ⟨[], t, mo, ne⟩ (rest.take k)).1.need), q :: qs))⟩ ⟨hj, h2, h3, hR, by simp [PX.outs]; omega, fun h => (by cases h), fun y l h => (by cases h; simp)⟩ (by simp only []; omega)
        exact ⟨o, qpx_step ho rfl rfl hsplit rfl (by simp [PX.outs, hq]), hr⟩
    | some none =>
      rw [show encPx ⟨bn, b, cn, cuts, rn, rest, j, n, i, some none⟩ = .s1 bn (uvs b) cn (cuts.map cutAV) rn (uvs rest) j n (svL i.ps) (bs i.text) i.mode i.need from rfl]
      have hf' : tabK tbL f_token_Feed [AV.agg [AV.lst 1 n (svL i.ps), sv (bs i.text), iv i.mode, iv i.need], AV.lst 1 rn (uvs (rest.take k))] = _ := hf
      simp only [Rlaw23_TokenPieces_0]
      rw [br_yesD (by rw [hcl]; omega), br_yesD (by omega), br_yesD (by rw [hcl]; omega), hget]
      simp only [optK_s, cutAV, asInt_v]
      rw [hmod, br_neg hz, br_yesD (by omega), br_yesD (by rw [uvs_len]; omega), Int.toNat_natCast, uvs_take, uvs_drop, hf']
      simp only [optK_s, asTup2, List.getD_cons_zero, List.getD_cons_succ, TIn.av, asAgg4, asLst_v, asStr_v, asInt_v, outsAV_lst]
      rw [br_yesD (by omega), br_yesD (by rw [uvs_len]; omega), w64_id (by omega) (by omega), show (j : Int) + 1 = ((j + 1 : Nat) : Int) by omega, List.isEmpty_map]
      cases hq : (feedS i (rest.take k)).2 with
      | nil =>
        rw [List.isEmpty_nil, br_t]
        obtain ⟨o, ho, hr⟩ := hrec ⟨bn, b, cn, cuts, rn, rest.drop k, j + 1, n', (feedS i (rest.take k)).1, some none⟩ ⟨hj, h2, h3, hR, by simp [PX.outs]; omega, fun h => (by cases h), fun y l h => (by cases h)⟩ (by simp only []; omega)
        exact ⟨o, qpx_step ho rfl rfl hsplit rfl (by simp [PX.outs, hq]), hr⟩
      | cons q qs =>
        rw [List.isEmpty_cons, br_f]
        rw [hq] at g1
        simp only [List.length_cons] at g1
        rw [br_pos (lenOks_of (by omega) (by simp; omega))]
        obtain ⟨o, ho, hr⟩ := hrec ⟨bn, b, cn, cuts, rn, rest.drop k, j + 1, n', (feedS i (rest.take k)).1, some (some ((n', svL (feedS i (rest.take k)).1.ps, bs (feedS i (rest.take k)).1.text, (feedS i (rest.take k)).1.mode, (feedS i (rest.take k)).1.need), q :: qs))⟩ ⟨hj, h2, h3, hR, by simp [PX.outs]; omega, fun h => (by cases h), fun y l h => (by cases h; simp)⟩ (by simp only []; omega)
        exact ⟨o, qpx_step ho rfl rfl hsplit rfl (by simp [PX.outs, hq]), hr⟩
    | some (some (⟨y1, y2, y3, y4, y5⟩, l)) =>
      have hl := h7 _ _ rfl
      simp only [PX.outs] at h5
      rw [show encPx ⟨bn, b, cn, cuts, rn, rest, j, n, i, some (some ((y1, y2, y3, y4, y5), l))⟩ = .s2 bn (uvs b) cn (cuts.map cutAV) rn (uvs rest) j n (svL i.ps) (bs i.text) i.mode i.need y1 y2 y3 y4 y5 (l.map outAV) from rfl]
      have hf' : tabK tbL f_token_Feed [AV.agg [AV.lst 1 n (svL i.ps), sv (bs i.text), iv i.mode, iv i.need], AV.lst 1 rn (uvs (rest.take k))] = _ := hf
      simp only [Rlaw23_TokenPieces_0]
      rw [br_yesD (by rw [hcl]; omega), br_yesD (by omega), br_yesD (by rw [hcl]; omega), hget]
      simp only [optK_s, cutAV, asInt_v]
      rw [hmod, br_neg hz, br_yesD (by omega), br_yesD (by rw [uvs_len]; omega), Int.toNat_natCast, uvs_take, uvs_drop, hf']
      simp only [optK_s, asTup2, List.getD_cons_zero, List.getD_cons_succ, TIn.av, asAgg4, asLst_v, asStr_v, asInt_v, outsAV_lst]
      rw [br_yesD (by omega), br_yesD (by rw [uvs_len]; omega), w64_id (by omega) (by omega), show (j : Int) + 1 = ((j + 1 : Nat) : Int) by omega, br_pos (lenOks_of (by omega) (by simp; omega)), ← List.map_append]
      obtain ⟨o, ho, hr⟩ := hrec ⟨bn, b, cn, cuts, rn, rest.drop k, j + 1, n', (feedS i (rest.take k)).1, some (some ((y1, y2, y3, y4, y5), l ++ (feedS i (rest.take k)).2))⟩ ⟨hj, h2, h3, hR, by simp [PX.outs]; omega, fun h => (by cases h), fun y l' h => (by cases h; simp [hl])⟩ (by simp only []; omega)
      exact ⟨o, qpx_step ho rfl rfl hsplit rfl (by simp [PX.outs]), hr⟩
  · match st with
    | none =>
      have hps := h6 rfl
      rw [show encPx ⟨bn, b, cn, cuts, rn, rest, j, n, i, none⟩ = .s0 bn (uvs b) cn (cuts.map cutAV) rn (uvs rest) j (bs i.text) i.mode i.need from rfl]
      simp only [Rlaw23_TokenPieces_0]
      rw [br_noD (by rw [hcl]; omega)]
      exact ⟨_, ⟨[], rest, rn, n, rfl, .inl ⟨rfl, hps, by simp [PX.outs, feedS]⟩⟩, rfl⟩
    | some none =>
      rw [show encPx ⟨bn, b, cn, cuts, rn, rest, j, n, i, some none⟩ = .s1 bn (uvs b) cn (cuts.map cutAV) rn (uvs rest) j n (svL i.ps) (bs i.text) i.mode i.need from rfl]
      simp only [Rlaw23_TokenPieces_0]
      rw [br_noD (by rw [hcl]; omega)]
      exact ⟨_, ⟨[], rest, rn, n, rfl, .inr (.inl ⟨rfl, by simp [PX.outs, feedS]⟩)⟩, rfl⟩
    | some (some (⟨y1, y2, y3, y4, y5⟩, l)) =>
      have hl := h7 _ _ rfl
      rw [show encPx ⟨bn, b, cn, cuts, rn, rest, j, n, i, some (some ((y1, y2, y3, y4, y5), l))⟩ = .s2 bn (uvs b) cn (cuts.map cutAV) rn (uvs rest) j n (svL i.ps) (bs i.text) i.mode i.need y1 y2 y3 y4 y5 (l.map outAV) from rfl]
      simp only [Rlaw23_TokenPieces_0]
      rw [br_noD (by rw [hcl]; omega)]
      exact ⟨_, ⟨[], rest, rn, n, rfl, .inr (.inr ⟨y1, y2, y3, y4, y5, by simp [PX.outs, feedS], by simp [PX.outs, feedS, hl]⟩)⟩, rfl⟩
theorem t_Pieces (bn : Bool) (b : List UInt8) (cn : Bool) (cuts : List Nat) (hc : ∀ c ∈ cuts, c < 65536) :
    Rlaw23_TokenPieces (tabK tbL) (loopQ (Rlaw23_TokenPieces_0 (tabK tbL) some) encPx PPx QPx) bn (uvs b) cn (cuts.map cutAV) = some (bv true) := by
  unfold Rlaw23_TokenPieces
  rw [show tabK tbL f_law23_alive [] = some (bv true) from rfl, uvs_len, List.length_map]
  simp only [optK_s, asBool_v, Bool.not_true, br_f]
  by_cases c1 : b.length > 5000
  · rw [br_yesD (by omega)]; rfl
  rw [br_noD (by omega)]
  by_cases c2 : cuts.length > 200
  · rw [decide_eq_true (show ((cuts.length : Nat) : Int) > 200 by omega)]; rfl
  rw [decide_eq_false (show ¬ ((cuts.length : Nat) : Int) > 200 by omega)]
  simp only [optK_s, asBool_v, br_f]
  obtain ⟨o, ⟨pre, rest', rn', n', hb, hcase⟩, hl⟩ := l_Px (a := ⟨bn, b, cn, cuts, bn, b, 0, true, emptyI, none⟩) ⟨by simp, by simp only []; omega, hc, right_empty, by simp [PX.outs]; omega, fun _ => rfl, fun y l h => by cases h⟩
  rw [show encPx ⟨bn, b, cn, cuts, bn, b, 0, true, emptyI, none⟩ = .s0 bn (uvs b) cn (cuts.map cutAV) bn (uvs b) 0 (bs []) 0 0 from rfl] at hl
  rw [emp, hl]
  simp only [] at hb
  simp only [PX.outs, List.nil_append] at hcase
  have hall : feedS emptyI b = ((feedS (feedS emptyI pre).1 rest').1, (feedS emptyI pre).2 ++ (feedS (feedS emptyI pre).1 rest').2) := by rw [hb, feedS_app]
  have hRi := right_feed pre right_empty
  have hR2 := right_feed rest' hRi
  have hRb := right_feed b right_empty
  obtain ⟨g1, g2⟩ := good_feed b right_empty
  have hPI := right_PI hRi
  have hPI2 := right_PI hR2
  have hlen : rest'.length ≤ 5000 := by rw [hb] at c1; simp at c1; omega
  obtain ⟨k2, ht⟩ := k_tFeed (T := tbL) rfl true emptyI bn b ⟨by simp [emptyI], by simp [emptyI], by simp only []; omega⟩
  rw [feedR_ok right_empty, hall] at ht
  rw [hall] at g1 g2
  simp only [] at g1 g2
  have ht' : tabK tbL f_token_Feed [AV.agg [AV.lst 1 true [], sv (bs []), iv 0, iv 0], AV.lst 1 bn (uvs b)] = _ := ht
  have hgo : ∀ n0, ∃ k1, tabK tbL f_token_Feed [(feedS emptyI pre).1.av n0, AV.lst 1 rn' (uvs rest')] = some (.tup [(feedS (feedS emptyI pre).1 rest').1.av k1, outsAV (feedS (feedS emptyI pre).1 rest').2]) := by
    intro n0
    obtain ⟨k1, h1⟩ := k_tFeed (T := tbL) rfl n0 (feedS emptyI pre).1 rn' rest' ⟨by have := hPI.1; simp only []; omega, by have := hPI.2.1; simp only []; omega, by simp only []; omega⟩
    rw [feedR_ok hRi] at h1
    exact ⟨k1, h1⟩
  have hsame : ∀ a c, tabK tbL f_ref23_Same [(feedS (feedS emptyI pre).1 rest').1.av a, (feedS (feedS emptyI pre).1 rest').1.av c] = some (bv true) := by
    intro a c
    rw [k_rSame (T := tbL) rfl a _ c _ (by have := hPI2.1; omega), sameI_self]
  have houts : ∀ a c, tabK tbL f_ref23_Outs [AV.lst 2 a (((feedS emptyI pre).2 ++ (feedS (feedS emptyI pre).1 rest').2).map outAV), AV.lst 2 c (((feedS emptyI pre).2 ++ (feedS (feedS emptyI pre).1 rest').2).map outAV)] = some (bv true) := by
    intro a c
    rw [k_Outs (T := tbL) rfl a _ c _ (by omega) (fun o ho => by have := (g2 o ho).2.2.2; omega), beq_self_eq_true]
  generalize hI : (feedS emptyI pre).1 = I at *
  generalize hD : (feedS emptyI pre).2 = D at *
  generalize hF : feedS I rest' = F at *
  obtain ⟨⟨ps', t', mo', ne'⟩, os⟩ := F
  simp only [] at g1 g2 hsame houts hgo ht'
  rcases hcase with ⟨rfl, hps, hd⟩ | ⟨rfl, hd⟩ | ⟨y1, y2, y3, y4, y5, rfl, hd⟩
  · subst hd
    obtain ⟨k1, hg⟩ := hgo true
    obtain ⟨ps, t, mo, ne⟩ := I
    simp only [] at hps
    subst hps
    have hg' : tabK tbL f_token_Feed [AV.agg [AV.lst 1 true [], sv (bs t), iv mo, iv ne], AV.lst 1 rn' (uvs rest')] = _ := hg
    simp only [optK_s, Olaw23_TokenPieces_0.k]
    rw [hg']
    have hs' : tabK tbL f_ref23_Same [AV.agg [AV.lst 1 k1 (svL ps'), sv (bs t'), iv mo', iv ne'], AV.agg [AV.lst 1 k2 (svL ps'), sv (bs t'), iv mo', iv ne']] = some (bv true) := hsame k1 k2
    simp only [optK_s, asTup2, List.getD_cons_zero, List.getD_cons_succ, TIn.av, asAgg4, asLst_v, asStr_v, asInt_v, outsAV_lst, List.isEmpty_map, List.nil_append] at ht' houts ⊢
    cases os with
    | nil =>
      rw [List.isEmpty_nil, br_t, ht']
      simp only [optK_s, asTup2, List.getD_cons_zero, List.getD_cons_succ, asAgg4, asLst_v, asStr_v, asInt_v]
      rw [hs']
      have ho' : tabK tbL f_ref23_Outs [AV.lst 2 true [], AV.lst 2 (([] : List TOut).isEmpty) (([] : List TOut).map outAV)] = some (bv true) := houts true true
      simp only [optK_s, asBool_v, br_t]
      rw [ho']
      rfl
    | cons q qs =>
      rw [List.isEmpty_cons, br_f, br_pos (lenOks_of (by omega) (by simp at g1 ⊢; omega)), ht']
      simp only [optK_s, asTup2, List.getD_cons_zero, List.getD_cons_succ, asAgg4, asLst_v, asStr_v, asInt_v]
      rw [hs']
      simp only [optK_s, asBool_v, br_t]
      rw [houts]
      rfl
  · subst hd
    obtain ⟨k1, hg⟩ := hgo n'
    have hg' : tabK tbL f_token_Feed [AV.agg [AV.lst 1 n' (svL I.ps), sv (bs I.text), iv I.mode, iv I.need], AV.lst 1 rn' (uvs rest')] = _ := hg
    simp only [optK_s, Olaw23_TokenPieces_0.k]
    rw [hg']
    have hs' : tabK tbL f_ref23_Same [AV.agg [AV.lst 1 k1 (svL ps'), sv (bs t'), iv mo', iv ne'], AV.agg [AV.lst 1 k2 (svL ps'), sv (bs t'), iv mo', iv ne']] = some (bv true) := hsame k1 k2
    simp only [optK_s, asTup2, List.getD_cons_zero, List.getD_cons_succ, TIn.av, asAgg4, asLst_v, asStr_v, asInt_v, outsAV_lst, List.isEmpty_map, List.nil_append] at ht' houts ⊢
    cases os with
    | nil =>
      rw [List.isEmpty_nil, br_t, ht']
      simp only [optK_s, asTup2, List.getD_cons_zero, List.getD_cons_succ, asAgg4, asLst_v, asStr_v, asInt_v]
      rw [hs']
      have ho' : tabK tbL f_ref23_Outs [AV.lst 2 true [], AV.lst 2 (([] : List TOut).isEmpty) (([] : List TOut).map outAV)] = some (bv true) := houts true true
      simp only [optK_s, asBool_v, br_t]
      rw [ho']
      rfl
    | cons q qs =>
      rw [List.isEmpty_cons, br_f, br_pos (lenOks_of (by omega) (by simp at g1 ⊢; omega)), ht']
      simp only [optK_s, asTup2, List.getD_cons_zero, List.getD_cons_succ, asAgg4, asLst_v, asStr_v, asInt_v]
      rw [hs']
      simp only [optK_s, asBool_v, br_t]
      rw [houts]
      rfl
  · obtain ⟨k1, hg⟩ := hgo n'
    have hg' : tabK tbL f_token_Feed [AV.agg [AV.lst 1 n' (svL I.ps), sv (bs I.text), iv I.mode, iv I.need], AV.lst 1 rn' (uvs rest')] = _ := hg
    simp only [optK_s, Olaw23_TokenPieces_0.k]
    rw [hg']
    have hs' : tabK tbL f_ref23_Same [AV.agg [AV.lst 1 k1 (svL ps'), sv (bs t'), iv mo', iv ne'], AV.agg [AV.lst 1 k2 (svL ps'), sv (bs t'), iv mo', iv ne']] = some (bv true) := hsame k1 k2
    simp only [optK_s, asTup2, List.getD_cons_zero, List.getD_cons_succ, TIn.av, asAgg4, asLst_v, asStr_v, asInt_v, outsAV_lst, ← List.map_append] at ht' houts ⊢
    rw [br_pos (lenOks_of (by omega) (by simp at g1 ⊢; omega)), ht']
    simp only [optK_s, asTup2, List.getD_cons_zero, List.getD_cons_succ, asAgg4, asLst_v, asStr_v, asInt_v]
    rw [hs']
    simp only [optK_s, asBool_v, br_t]
    rw [houts]
    rfl
end Go.Proofs.YtphbfkncimifoaaDoor
