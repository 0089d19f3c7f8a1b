import Derived.Test.YtkkbdebmilagoaaGreatDoorSeR
set_option linter.unusedVariables false
set_option linter.unusedSimpArgs false
set_option maxRecDepth 100000
namespace Go.Proofs.YtkkbdebmilagoaaGreatDoor
/- Match and Find, of any way to find. -/
open Go Go.Ab Go.RowKit

/-- What keys answer, their links led down. -/
def evG (fd : KeyR → Bool) (keys : List KeyR) : Nat → Nat → Bool
  | 0, _ => false
  | n + 1, i =>
    let k := keys.getD i KeyR.dft
    if k.op = 16 then !evG fd keys n k.a else if k.op = 17 then (evG fd keys n k.a || evG fd keys n k.b) else if k.op = 18 then (evG fd keys n k.a && evG fd keys n k.b) else fd k
/-- Do the links lead down? -/
structure Down (keys : List KeyR) : Prop where
  one : ∀ i, i < keys.length → (keys.getD i KeyR.dft).op = 16 → (keys.getD i KeyR.dft).a < i
  two : ∀ i, i < keys.length → (keys.getD i KeyR.dft).op = 17 ∨ (keys.getD i KeyR.dft).op = 18 → (keys.getD i KeyR.dft).a < i ∧ (keys.getD i KeyR.dft).b < i
theorem evG_stable {fd : KeyR → Bool} {keys : List KeyR} (hd : Down keys) : ∀ (n m i : Nat), i < keys.length → i < n → i < m → evG fd keys n i = evG fd keys m i
  | 0, _, _, _, h, _ => absurd h (Nat.not_lt_zero _)
  | _ + 1, 0, _, _, _, h => absurd h (Nat.not_lt_zero _)
  | n + 1, m + 1, i, hi, hn, hm => by
    simp only [evG]
    by_cases h16 : (keys.getD i KeyR.dft).op = 16
    · have := hd.one i hi h16
      rw [if_pos h16, if_pos h16, evG_stable hd n m _ (by omega) (by omega) (by omega)]
    · rw [if_neg h16, if_neg h16]
      by_cases h17 : (keys.getD i KeyR.dft).op = 17
      · have := hd.two i hi (.inl h17)
        rw [if_pos h17, if_pos h17, evG_stable hd n m _ (by omega) (by omega) (by omega), evG_stable hd n m (keys.getD i KeyR.dft).b (by omega) (by omega) (by omega)]
      · rw [if_neg h17, if_neg h17]
        by_cases h18 : (keys.getD i KeyR.dft).op = 18
        · have := hd.two i hi (.inr h18)
          rw [if_pos h18, if_pos h18, evG_stable hd n m _ (by omega) (by omega) (by omega), evG_stable hd n m (keys.getD i KeyR.dft).b (by omega) (by omega) (by omega)]
        · rw [if_neg h18, if_neg h18]
def evK (fd : KeyR → Bool) (keys : List KeyR) (i : Nat) : Bool := evG fd keys (i + 1) i
theorem evK_ok {fd : KeyR → Bool} {keys : List KeyR} (hd : Down keys) : KeyROk (fun i => keys.getD i KeyR.dft) (evK fd keys) keys.length := by
  refine ⟨fun i hi h => ?_, fun i hi h => ?_, fun i hi h => ?_⟩
  · have h1 := hd.one i hi h
    refine ⟨h1, ?_⟩
    show evG fd keys (i + 1) i = _
    simp only [evG]
    rw [if_pos h, evK, evG_stable hd i _ _ (by omega) h1 (Nat.lt_succ_self _)]
  · have h1 := hd.two i hi (.inl h)
    refine ⟨h1, ?_⟩
    show evG fd keys (i + 1) i = _
    simp only [evG]
    rw [if_neg (by omega), if_pos h, evK, evK, evG_stable hd i _ _ (by omega) h1.1 (Nat.lt_succ_self _), evG_stable hd i _ (keys.getD i KeyR.dft).b (by omega) h1.2 (Nat.lt_succ_self _)]
  · have h1 := hd.two i hi (.inr h)
    refine ⟨h1, ?_⟩
    show evG fd keys (i + 1) i = _
    simp only [evG]
    rw [if_neg (by omega), if_neg (by omega), if_pos h, evK, evK, evG_stable hd i _ _ (by omega) h1.1 (Nat.lt_succ_self _), evG_stable hd i _ (keys.getD i KeyR.dft).b (by omega) h1.2 (Nat.lt_succ_self _)]
theorem evK_leaf {fd : KeyR → Bool} {keys : List KeyR} {i : Nat} {k : KeyR} (hk : keys[i]? = some k) (h16 : k.op ≠ 16) (h17 : k.op ≠ 17) (h18 : k.op ≠ 18) : evK fd keys i = fd k := by
  have : keys.getD i KeyR.dft = k := by simp [List.getD, hk]
  simp only [evK, evG, this]
  rw [if_neg h16, if_neg h17, if_neg h18]
theorem badFrom_none : ∀ {keys : List KeyR} {i : Nat}, badFrom keys i = none → ∀ j k, keys[j]? = some k → mayV k ((i + j : Nat) : Int) = true ∧ i + j < 60
  | [], _, _, j, k, h => by simp at h
  | x :: r, i, hb, j, k, h => by
    simp only [badFrom] at hb
    split at hb
    · cases hb
    · rename_i hc
      cases j with
      | zero =>
        simp at h
        subst h
        have h1 : ¬ 60 ≤ i := fun h => hc (.inl h)
        have h2 : mayV x (i : Int) = true := by
          cases hm : mayV x (i : Int) with
          | true => rfl
          | false => exact absurd (.inr hm) hc
        exact ⟨by simpa using h2, by omega⟩
      | succ j =>
        have := badFrom_none hb j k (by simpa using h)
        rw [show i + (j + 1) = i + 1 + j by omega]
        exact this
theorem mayV_fits {k : KeyR} {i : Int} (h : mayV k i = true) : 0 ≤ k.op ∧ k.op ≤ 18 ∧ k.nm.size ≤ 200 ∧ k.tx.size ≤ 200 ∧ 0 ≤ k.kn ∧ k.kn ≤ 1099511627776 := by
  unfold mayV at h
  simp only [Bool.and_eq_true] at h
  have h := h.1.1.1.1
  unfold KeyR.fits at h
  simp at h
  omega
theorem right_down {keys : List KeyR} (h : rightL keys = true) : Down keys ∧ 1 ≤ keys.length ∧ keys.length ≤ 60 ∧ ∀ k ∈ keys, 0 ≤ k.op ∧ k.op ≤ 18 ∧ k.nm.size ≤ 200 ∧ k.tx.size ≤ 200 ∧ 0 ≤ k.kn ∧ k.kn ≤ 1099511627776 := by
  unfold rightL at h
  simp only [Bool.and_eq_true, Option.isNone_iff_eq_none, decide_eq_true_eq] at h
  have hall := badFrom_none h.1
  have hg : ∀ i, i < keys.length → mayV (keys.getD i KeyR.dft) (i : Int) = true := fun i hi => by
    have := (hall i keys[i] (List.getElem?_eq_getElem hi)).1
    simpa [List.getD, List.getElem?_eq_getElem hi] using this
  refine ⟨⟨fun i hi h16 => ?_, fun i hi h17 => ?_⟩, by omega, ?_, fun k hk => ?_⟩
  · have := hg i hi
    unfold mayV at this
    simp only [Bool.and_eq_true] at this
    have h1 := this.1.1.2
    unfold linkV linksOf at h1
    rw [if_pos h16] at h1
    generalize (keys.getD i KeyR.dft).a = z at h1 ⊢
    simp at h1
    omega
  · have := hg i hi
    unfold mayV at this
    simp only [Bool.and_eq_true] at this
    have h1 := this.1.1.2
    have h2 := this.1.2
    unfold linkV linksOf at h1 h2
    rw [if_neg (by omega), if_pos h17] at h1 h2
    generalize (keys.getD i KeyR.dft).a = z at h1 ⊢
    generalize (keys.getD i KeyR.dft).b = y at h2 ⊢
    simp at h1 h2
    omega
  · have := (hall (keys.length - 1) keys[keys.length - 1] (List.getElem?_eq_getElem (by omega))).2
    omega
  · obtain ⟨i, hi, rfl⟩ := List.getElem_of_mem hk
    have h1 := hg i hi
    rw [show keys.getD i KeyR.dft = keys[i] by simp [List.getD, List.getElem?_eq_getElem hi]] at h1
    exact mayV_fits h1
def matchV (fd : KeyR → Bool) (keys : List KeyR) : Bool := rightL keys && evK fd keys (keys.length - 1)
section
variable {m : Int}
/-- Match, of any keys, where what each leaf finds is told. -/
theorem p_Match {b : Bool} {keys : List KeyR} {x : MsgR} {p lp lu : Int} {fd : KeyR → Bool} (hb : b = true → keys = []) (hk : keys.length ≤ 1000000000) (hok : ∀ k ∈ keys, k.ok)
    (hfin : ∀ k ∈ keys, 0 ≤ k.op → k.op ≤ 15 → k.nm.size ≤ 200 → k.tx.size ≤ 200 → 0 ≤ k.kn → k.kn ≤ 1099511627776 → PureCall (XM m) 21 [x.sight p lp lu, k.av] (bv (fd k))) :
    PureCall (XM m) 9 [.lst 7 b (keys.map KeyR.av), x.av, iv p, iv lp, iv lu] (bv (matchV fd keys)) := by
  have hR : PureCall (XM m) 16 [.lst 7 b (keys.map KeyR.av)] (bv (rightL keys)) := wide (p_Right ⟨hk, hok⟩)
  unfold matchV
  cases hr : rightL keys with
  | false =>
    rw [hr] at hR
    exact pure_match_no hR
  | true =>
    rw [hr] at hR
    obtain ⟨hd, h1, h60, hall⟩ := right_down hr
    have hbf : b = false := by
      cases b with
      | false => rfl
      | true => rw [hb rfl] at h1; cases h1
    subst hbf
    rw [Bool.true_and]
    refine pure_match (by omega) h1 (evK_ok hd) hR fun i k hi h16 h17 h18 => ?_
    have hm := List.mem_of_getElem? hi
    have := hall k hm
    rw [evK_leaf hi h16 h17 h18]
    exact hfin k hm (by omega) (by omega) (by omega) (by omega) (by omega) (by omega)

/-! The table's entry, and Find. -/
abbrev Fd := MsgR → Int → Int → Int → KeyR → Bool
structure MaA where
  b : Bool
  keys : List KeyR
  x : MsgR
  p : Int
  lp : Int
  lu : Int
def MaA.enc (q : MaA) : List AV := [.lst 7 q.b (q.keys.map KeyR.av), q.x.av, iv q.p, iv q.lp, iv q.lu]
def FindsOk (m : Int) (fd : Fd) (keys : List KeyR) (x : MsgR) (p lp lu : Int) : Prop :=
  ∀ k ∈ keys, 0 ≤ k.op → k.op ≤ 15 → k.nm.size ≤ 200 → k.tx.size ≤ 200 → 0 ≤ k.kn → k.kn ≤ 1099511627776 → PureCall (XM m) 21 [x.sight p lp lu, k.av] (bv (fd x p lp lu k))
def MaA.P (m : Int) (fd : Fd) (q : MaA) : Prop := (q.b = true → q.keys = []) ∧ q.keys.length ≤ 1000000000 ∧ (∀ k ∈ q.keys, k.ok) ∧ FindsOk m fd q.keys q.x q.p q.lp q.lu
theorem MsgR.inj {a b : MsgR} (h : a.av = b.av) : a = b := by
  obtain ⟨a0, a1, a2, a3, a4⟩ := a
  obtain ⟨b0, b1, b2, b3, b4⟩ := b
  simp [MsgR.av, iv] at h
  obtain ⟨rfl, rfl, rfl, rfl, rfl⟩ := h
  rfl
theorem keys_inj {a b : List KeyR} (h : a.map KeyR.av = b.map KeyR.av) : a = b := (List.map_inj_right fun x y h => KeyR.inj h).1 h
theorem msgs_inj {a b : List MsgR} (h : a.map MsgR.av = b.map MsgR.av) : a = b := (List.map_inj_right fun x y h => MsgR.inj h).1 h
theorem MaA.inj {a b : MaA} (h : a.enc = b.enc) : a = b := by
  obtain ⟨a0, a1, a2, a3, a4, a5⟩ := a
  obtain ⟨b0, b1, b2, b3, b4, b5⟩ := b
  simp only [MaA.enc, List.cons.injEq, AV.lst.injEq, iv, AV.v.injEq, Value.int.injEq, true_and, and_true] at h
  obtain ⟨⟨rfl, h1⟩, h2, rfl, rfl, rfl⟩ := h
  obtain rfl := keys_inj h1
  obtain rfl := MsgR.inj h2
  rfl
noncomputable abbrev E_Match (m : Int) (fd : Fd) := callF (XM m) f_search_Match MaA.enc (MaA.P m fd) (fun q => bv (matchV (fd q.x q.p q.lp q.lu) q.keys))
theorem k_Match {fd : Fd} {T : Tab} (hT : tabK T f_search_Match = E_Match m fd) {b : Bool} {keys : List KeyR} {x : MsgR} {p lp lu : Int} (h : MaA.P m fd ⟨b, keys, x, p, lp, lu⟩) :
    tabK T f_search_Match [.lst 7 b (keys.map KeyR.av), x.av, iv p, iv lp, iv lu] = some (bv (matchV (fd x p lp lu) keys)) := by
  rw [hT]
  refine callF_eq (enc := MaA.enc) (fun q hq => ?_) (fun a b h => ?_) (a := ⟨b, keys, x, p, lp, lu⟩) h
  · exact p_Match hq.1 hq.2.1 hq.2.2.1 hq.2.2.2
  · rw [MaA.inj h]
noncomputable def tbFind (m : Int) (fd : Fd) : Tab := [(f_search_Match, E_Match m fd)]
theorem tbFind_ok {fd : Fd} : TabOk (XM m) (tbFind m fd) := tab_cons callQ_ok tab_nil
/-- The places found, from a place on. -/
def goF (fd : Fd) (keys : List KeyR) (n lu : Int) : List MsgR → Nat → List Int
  | [], _ => []
  | x :: r, i => if matchV (fd x ((i : Int) + 1) n lu) keys then ((i : Int) + 1) :: goF fd keys n lu r (i + 1) else goF fd keys n lu r (i + 1)
structure BoxR where
  nm : ByteArray
  i1 : Int
  i2 : Int
  b : Bool
  ms : List MsgR
def BoxR.av (q : BoxR) : AV := .agg [sv q.nm, iv q.i1, iv q.i2, .lst 4 q.b (q.ms.map MsgR.av)]
def BoxR.lu (q : BoxR) : Int := ((q.ms.getLast?).map MsgR.uid).getD 0
structure FiS where
  b : Bool
  keys : List KeyR
  bx : BoxR
  i : Nat
  acc : Option (MsgR × List Int)
def FiS.enc (q : FiS) : Ssearch_Find_0 := match q.acc with
  | none => .s0 q.b (q.keys.map KeyR.av) q.bx.ms.length q.bx.b (q.bx.ms.map MsgR.av) q.bx.ms.length q.i q.bx.nm q.bx.i1 q.bx.i2 q.bx.b (q.bx.ms.map MsgR.av)
  | some (x, l) => .s1 q.b (q.keys.map KeyR.av) q.bx.ms.length q.bx.b (q.bx.ms.map MsgR.av) q.bx.ms.length q.i q.bx.nm q.bx.i1 q.bx.i2 q.bx.b (q.bx.ms.map MsgR.av) x.uid x.fl x.dt x.bb x.bo (ivL l)
def FiS.got (q : FiS) : List Int := match q.acc with
  | none => []
  | some (_, l) => l
def FindP (m : Int) (fd : Fd) (b : Bool) (keys : List KeyR) (bx : BoxR) : Prop :=
  (b = true → keys = []) ∧ keys.length ≤ 1000000000 ∧ (∀ k ∈ keys, k.ok) ∧ bx.ms.length ≤ 1000000000 ∧ ∀ (i : Nat) (x : MsgR), bx.ms[i]? = some x → FindsOk m fd keys x ((i : Int) + 1) bx.ms.length bx.lu
def FiS.P (m : Int) (fd : Fd) (q : FiS) : Prop := FindP m fd q.b q.keys q.bx ∧ q.i ≤ q.bx.ms.length ∧ q.got.length ≤ q.i
def FiS.Q (fd : Fd) (q : FiS) (o : Osearch_Find_0) : Prop :=
  match q.acc, goF fd q.keys q.bx.ms.length q.bx.lu (q.bx.ms.drop q.i) q.i with
  | none, [] => o = .x0 q.bx.nm q.bx.i1 q.bx.i2 q.bx.b (q.bx.ms.map MsgR.av)
  | _, l => ∃ x : MsgR, o = .x1 q.bx.nm q.bx.i1 q.bx.i2 q.bx.b (q.bx.ms.map MsgR.av) x.uid x.fl x.dt x.bb x.bo (ivL (q.got ++ l))
theorem ivL_app (a b : List Int) : ivL a ++ ivL b = ivL (a ++ b) := by simp [ivL]
theorem FiS.inj {a b : FiS} (h : a.enc = b.enc) : a = b := by
  obtain ⟨a0, a1, ⟨a2, a3, a4, a5, a6⟩, a7, a8⟩ := a
  obtain ⟨b0, b1, ⟨b2, b3, b4, b5, b6⟩, b7, b8⟩ := b
  cases a8 with
  | none =>
    cases b8 with
    | none =>
      simp only [FiS.enc, Ssearch_Find_0.s0.injEq] at h
      obtain ⟨rfl, h1, _, rfl, h2, _, h3, rfl, rfl, rfl, _, _⟩ := h
      obtain rfl := keys_inj h1
      obtain rfl := msgs_inj h2
      obtain rfl : a7 = b7 := by omega
      rfl
    | some y => obtain ⟨y, l⟩ := y; cases h
  | some x =>
    obtain ⟨⟨x0, x1, x2, x3, x4⟩, l⟩ := x
    cases b8 with
    | none => cases h
    | some y =>
      obtain ⟨⟨y0, y1, y2, y3, y4⟩, l'⟩ := y
      simp only [FiS.enc, Ssearch_Find_0.s1.injEq] at h
      obtain ⟨rfl, h1, _, rfl, h2, _, h3, rfl, rfl, rfl, _, _, rfl, rfl, rfl, rfl, rfl, h5⟩ := h
      obtain rfl := keys_inj h1
      obtain rfl := msgs_inj h2
      obtain rfl : a7 = b7 := by omega
      obtain rfl := ivL_inj h5
      rfl
theorem last_uid (ms : List MsgR) (h : 0 < ms.length) : ∃ y, ms[ms.length - 1]? = some y ∧ y.uid = (((ms.getLast?).map MsgR.uid).getD 0) := by
  refine ⟨ms[ms.length - 1], List.getElem?_eq_getElem (by omega), ?_⟩
  rw [List.getLast?_eq_getElem?, List.getElem?_eq_getElem (by omega)]
  rfl
theorem l_Find {fd : Fd} {q : FiS} (h : q.P m fd) : ∃ o, q.Q fd o ∧ loopQ (Rsearch_Find_0 (tabK (tbFind m fd)) some) FiS.enc (FiS.P m fd) (FiS.Q fd) q.enc = some o := by
  refine loopQ_eq (enc := FiS.enc) (fun q => q.bx.ms.length - q.i) (fun q rec hP hrec => ?_) (fun a b h o ho => by rw [FiS.inj h]; exact ho) h
  obtain ⟨b, keys, ⟨nm, i1, i2, mb, ms⟩, i, acc⟩ := q
  obtain ⟨⟨hb, hkl, hko, hml, hfd⟩, hi1, hg⟩ := hP
  simp only [] at hb hkl hko hml hfd hi1 hg
  by_cases hi : i < ms.length
  · have hstep : ∀ (acc' : Option (MsgR × List Int)) (b' : FiS), b' = ⟨b, keys, ⟨nm, i1, i2, mb, ms⟩, i + 1, acc'⟩ → b'.got.length ≤ i + 1 → ∃ o, b'.Q fd o ∧ rec b'.enc = some o := fun acc' b' hb' hl => by
      subst hb'
      exact hrec _ ⟨⟨hb, hkl, hko, hml, hfd⟩, hi, hl⟩ (by simp only []; omega)
    obtain ⟨y, hy1, hy2⟩ := last_uid ms (by omega)
    have hx := List.getElem?_eq_getElem hi
    generalize ms[i] = x at hx
    have hdrop : ms.drop i = x :: ms.drop (i + 1) := by
      rw [List.drop_eq_getElem_cons hi]
      rw [List.getElem?_eq_getElem hi] at hx
      simp at hx
      rw [hx]
    have hcall : tabK (tbFind m fd) f_search_Match [.lst 7 b (keys.map KeyR.av), AV.agg [iv x.uid, iv x.fl, iv x.dt, .lst 1 x.bb x.bo], iv ((i : Int) + 1), iv ms.length, iv y.uid] = some (bv (matchV (fd x ((i : Int) + 1) ms.length y.uid) keys)) := by
      refine k_Match (m := m) (fd := fd) (x := x) rfl ⟨hb, hkl, hko, ?_⟩
      have := hfd i x hx
      rw [show BoxR.lu ⟨nm, i1, i2, mb, ms⟩ = y.uid from hy2.symm] at this
      exact this
    have hlu : BoxR.lu ⟨nm, i1, i2, mb, ms⟩ = y.uid := hy2.symm
    have hrow : (ms.map MsgR.av)[i]? = some (AV.agg [iv x.uid, iv x.fl, iv x.dt, .lst 1 x.bb x.bo]) := by rw [List.getElem?_map, hx]; rfl
    have hrow2 : (ms.map MsgR.av)[((ms.length : Int) - 1).toNat]? = some (AV.agg [iv y.uid, iv y.fl, iv y.dt, .lst 1 y.bb y.bo]) := by
      rw [show ((ms.length : Int) - 1).toNat = ms.length - 1 by omega, List.getElem?_map, hy1]; rfl
    cases acc with
    | none =>
      rw [show FiS.enc ⟨b, keys, ⟨nm, i1, i2, mb, ms⟩, i, none⟩ = .s0 b (keys.map KeyR.av) ms.length mb (ms.map MsgR.av) ms.length i nm i1 i2 mb (ms.map MsgR.av) from rfl]
      simp only [Rsearch_Find_0, List.length_map]
      rw [br_yesD (p := (i : Int) < (ms.length : Int)) (by omega), br_yesD (p := 0 ≤ (i : Int)) (by omega), br_yesD (p := (i : Int) < (ms.length : Int)) (by omega), show ((i : Int)).toNat = i from rfl, hrow]
      simp only [optK_s]
      rw [asAgg_v _ 4 rfl]
      simp only [List.getD_cons_zero, List.getD_cons_succ, asInt_v, asLst_v]
      rw [w64_id (n := (ms.length : Int) - 1) (by omega) (by omega), br_yesD (p := 0 ≤ (ms.length : Int) - 1) (by omega), br_yesD (p := (ms.length : Int) - 1 < (ms.length : Int)) (by omega), hrow2]
      simp only [optK_s]
      rw [asAgg_v _ 4 rfl]
      simp only [List.getD_cons_zero, List.getD_cons_succ, asInt_v, asLst_v]
      rw [w64_id (n := (i : Int) + 1) (by omega) (by omega), hcall]
      simp only [optK_s, asBool_v, FiS.Q]
      rw [hdrop]
      simp only [goF, hlu]
      cases hm : matchV (fd x ((i : Int) + 1) ms.length y.uid) keys with
      | true =>
        obtain ⟨o, ho, hr⟩ := hstep (some (x, [(i : Int) + 1])) _ rfl (by simp [FiS.got])
        refine ⟨o, ?_, ?_⟩
        · simp only [FiS.Q, FiS.got, hlu] at ho
          simp only [if_true]
          simpa [FiS.got] using ho
        · rw [br_t]; exact hr
      | false =>
        obtain ⟨o, ho, hr⟩ := hstep none _ rfl (by simp [FiS.got])
        refine ⟨o, ?_, ?_⟩
        · simp only [FiS.Q, FiS.got, hlu] at ho
          simpa [FiS.got] using ho
        · rw [br_f]; exact hr
    | some z =>
      obtain ⟨z, l⟩ := z
      have hg : l.length ≤ i := hg
      rw [show FiS.enc ⟨b, keys, ⟨nm, i1, i2, mb, ms⟩, i, some (z, l)⟩ = .s1 b (keys.map KeyR.av) ms.length mb (ms.map MsgR.av) ms.length i nm i1 i2 mb (ms.map MsgR.av) z.uid z.fl z.dt z.bb z.bo (ivL l) from rfl]
      simp only [Rsearch_Find_0, List.length_map]
      rw [br_yesD (p := (i : Int) < (ms.length : Int)) (by omega), br_yesD (p := 0 ≤ (i : Int)) (by omega), br_yesD (p := (i : Int) < (ms.length : Int)) (by omega), show ((i : Int)).toNat = i from rfl, hrow]
      simp only [optK_s]
      rw [asAgg_v _ 4 rfl]
      simp only [List.getD_cons_zero, List.getD_cons_succ, asInt_v, asLst_v]
      rw [w64_id (n := (ms.length : Int) - 1) (by omega) (by omega), br_yesD (p := 0 ≤ (ms.length : Int) - 1) (by omega), br_yesD (p := (ms.length : Int) - 1 < (ms.length : Int)) (by omega), hrow2]
      simp only [optK_s]
      rw [asAgg_v _ 4 rfl]
      simp only [List.getD_cons_zero, List.getD_cons_succ, asInt_v, asLst_v]
      rw [w64_id (n := (i : Int) + 1) (by omega) (by omega), hcall]
      simp only [optK_s, asBool_v, FiS.Q]
      rw [hdrop]
      simp only [goF, hlu]
      cases hm : matchV (fd x ((i : Int) + 1) ms.length y.uid) keys with
      | true =>
        obtain ⟨o, ho, hr⟩ := hstep (some (z, l ++ [(i : Int) + 1])) _ rfl (by simp [FiS.got]; omega)
        refine ⟨o, ?_, ?_⟩
        · simp only [FiS.Q, FiS.got, hlu] at ho
          simp only [if_true]
          simpa [FiS.got] using ho
        · rw [br_t, lenOks_of (by omega) (by simp [ivL_len]; omega), br_t, show [iv ((i : Int) + 1)] = ivL [(i : Int) + 1] from rfl, ivL_app]
          exact hr
      | false =>
        obtain ⟨o, ho, hr⟩ := hstep (some (z, l)) _ rfl (by simp [FiS.got]; omega)
        refine ⟨o, ?_, ?_⟩
        · simp only [FiS.Q, FiS.got, hlu] at ho
          simpa [FiS.got] using ho
        · rw [br_f]; exact hr
  · have hdrop : ms.drop i = [] := List.drop_eq_nil_of_le (by omega)
    cases acc with
    | none =>
      rw [show FiS.enc ⟨b, keys, ⟨nm, i1, i2, mb, ms⟩, i, none⟩ = .s0 b (keys.map KeyR.av) ms.length mb (ms.map MsgR.av) ms.length i nm i1 i2 mb (ms.map MsgR.av) from rfl]
      simp only [Rsearch_Find_0, List.length_map]
      rw [br_noD (p := (i : Int) < (ms.length : Int)) (by omega)]
      refine ⟨_, ?_, rfl⟩
      simp only [FiS.Q]
      rw [hdrop]
      simp only [goF]
    | some z =>
      obtain ⟨z, l⟩ := z
      rw [show FiS.enc ⟨b, keys, ⟨nm, i1, i2, mb, ms⟩, i, some (z, l)⟩ = .s1 b (keys.map KeyR.av) ms.length mb (ms.map MsgR.av) ms.length i nm i1 i2 mb (ms.map MsgR.av) z.uid z.fl z.dt z.bb z.bo (ivL l) from rfl]
      simp only [Rsearch_Find_0, List.length_map]
      rw [br_noD (p := (i : Int) < (ms.length : Int)) (by omega)]
      refine ⟨_, ?_, rfl⟩
      simp only [FiS.Q]
      rw [hdrop]
      exact ⟨z, by simp [FiS.got, goF]⟩
def findL (fd : Fd) (keys : List KeyR) (bx : BoxR) : List Int := goF fd keys bx.ms.length bx.lu bx.ms 0
theorem p_Find {fd : Fd} {b : Bool} {keys : List KeyR} {bx : BoxR} (h : FindP m fd b keys bx) : PureCall (XM m) f_search_Find [bx.av, .lst 7 b (keys.map KeyR.av)] (.lst 1 (findL fd keys bx).isEmpty (ivL (findL fd keys bx))) := by
  obtain ⟨nm, i1, i2, mb, ms⟩ := bx
  refine pcsearch_Find (m := m) (K := tabK (tbFind m fd)) (tab_ok _ tbFind_ok) (fun s o h => loopQ_ok (enc := FiS.enc) (P := FiS.P m fd) (Q := FiS.Q fd) s o h) ?_
  unfold Rsearch_Find
  rw [List.length_map]
  obtain ⟨o, ho, hl⟩ := l_Find (m := m) (fd := fd) (q := ⟨b, keys, ⟨nm, i1, i2, mb, ms⟩, 0, none⟩) ⟨h, Nat.zero_le _, Nat.zero_le _⟩
  rw [show Ssearch_Find_0.s0 b (keys.map KeyR.av) ((ms.length : Nat) : Int) mb (ms.map MsgR.av) ((ms.length : Nat) : Int) 0 nm i1 i2 mb (ms.map MsgR.av) = FiS.enc ⟨b, keys, ⟨nm, i1, i2, mb, ms⟩, 0, none⟩ from rfl, hl]
  simp only [optK_s]
  simp only [FiS.Q, List.drop_zero] at ho
  unfold findL
  simp only []
  generalize goF fd keys ms.length (BoxR.lu ⟨nm, i1, i2, mb, ms⟩) ms 0 = l at ho
  cases l with
  | nil => simp only [] at ho; subst ho; rfl
  | cons a l =>
    obtain ⟨x, rfl⟩ := ho
    rfl
structure FiA where
  bx : BoxR
  b : Bool
  keys : List KeyR
def FiA.enc (q : FiA) : List AV := [q.bx.av, .lst 7 q.b (q.keys.map KeyR.av)]
theorem FiA.inj {a b : FiA} (h : a.enc = b.enc) : a = b := by
  obtain ⟨⟨a2, a3, a4, a5, a6⟩, a0, a1⟩ := a
  obtain ⟨⟨b2, b3, b4, b5, b6⟩, b0, b1⟩ := b
  simp [FiA.enc, BoxR.av, sv, iv] at h
  obtain ⟨⟨rfl, rfl, rfl, rfl, h1⟩, rfl, h2⟩ := h
  obtain rfl := keys_inj (by simpa using h2)
  obtain rfl := msgs_inj (by simpa using h1)
  rfl
noncomputable abbrev E_Find (m : Int) (fd : Fd) := callF (XM m) f_search_Find FiA.enc (fun q => FindP m fd q.b q.keys q.bx) (fun q => .lst 1 (findL fd q.keys q.bx).isEmpty (ivL (findL fd q.keys q.bx)))
theorem k_Find {fd : Fd} {T : Tab} (hT : tabK T f_search_Find = E_Find m fd) {b : Bool} {keys : List KeyR} {bx : BoxR} (h : FindP m fd b keys bx) :
    tabK T f_search_Find [bx.av, .lst 7 b (keys.map KeyR.av)] = some (.lst 1 (findL fd keys bx).isEmpty (ivL (findL fd keys bx))) := by
  rw [hT]
  exact callF_eq (enc := FiA.enc) (fun q hq => p_Find hq) (fun a b h => by rw [FiA.inj h]) (a := ⟨bx, b, keys⟩) h
end
end Go.Proofs.YtkkbdebmilagoaaGreatDoor
