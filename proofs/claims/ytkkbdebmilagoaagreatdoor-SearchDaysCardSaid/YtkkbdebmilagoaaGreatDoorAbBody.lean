/- Functions, soundly. -/
import Derived.Test.YtkkbdebmilagoaaGreatDoorAbLoop
set_option linter.unusedSimpArgs false
set_option linter.unusedVariables false
namespace Go.Ab
open Go

/-- What must be known of a program, once: its orders are drawn, and each function that may be walked has good code. -/
structure Sound (X : Ctx) : Prop where
  mix : X.P.follows .mixedOrders = true
  fn : ∀ g fn, X.ok g = true → X.P.funcs[g]? = some fn → (fn.name == "runtime.NumGoroutine") = false ∧ ∀ c, fn.body = some c → codeGood c = true
  lp : ∀ g fn c, X.ok g = true → X.P.funcs[g]? = some fn → fn.body = some c → ∀ b ∈ loopsOf c, LoopOk X g b

section
variable {X : Ctx} {β : Type}

theorem loadV_ok {s : St} (hok : Ok X s) {t : TypeId} {x v : AV} {vx : Value} (hx : Rel s x vx) (e : loadV X.P t s.H x = some v) :
    ∃ cv, (asAddr vx >>= loadVar t).run X.P s.w = .ok cv s.w ∧ Rel s v cv := by
  unfold loadV at e
  split at e
  · rename_i id gen r off
    obtain ⟨ob, hob, hl, hg, e1⟩ := objK_some e
    obtain ⟨row, hrow, e2⟩ := rowK_some e1
    have hit := objK_it e hob
    clear e e1
    have hobok := hok.obj id ob hob hl
    cases hx with
    | ptr i g row' off' o' ho' hl' hg' hrow' =>
      rw [ho'] at hob
      obtain rfl := Option.some.inj hob
      obtain ⟨cur, ty, fr, hfr, hb, hsz, hcap, hcells⟩ := hobok.block hit
      have hmem : row ∈ o'.rows := List.mem_of_getElem? hrow
      have hlen := hobok.es row hmem
      obtain ⟨x, cv, e, hrun, hrel⟩ := sub_load (s := s) e2 (b := s.loc id) (base := r * o'.es) (vals := fun j => cur[r * o'.es + j]?.getD undef) (hobok.cell row hmem)
        (fun j hj => by
          obtain ⟨v, hv, hrv⟩ := hcells r j row row.cells[j] hrow (List.getElem?_eq_getElem hj)
          simp [World.cell?, ad, hb, hv])
        (fun j y hy => by
          obtain ⟨v, hv, hrv⟩ := hcells r j row y hrow hy
          simpa [hv] using hrv)
      cases e
      exact ⟨cv, by simp only [asAddr, Sem.run_bind, Sem.run_pure, Result.andThen_ok, hrun], hrel⟩
    | ptrStale i g row' off' o' a ho' hs =>
      rw [ho'] at hob
      obtain rfl := Option.some.inj hob
      rcases hs with hs | hs
      · rw [hl] at hs; cases hs
      · omega
  · rename_i row off
    cases hx with
    | pl row off b base vals hsz hpriv hfree hcell hc hr =>
      obtain ⟨x, cv, e, hrun, hrel⟩ := sub_load (s := s) e hcell hc hr
      cases e
      exact ⟨cv, by simp only [asAddr, Sem.run_bind, Sem.run_pure, Result.andThen_ok, hrun], hrel⟩
  · cases e

theorem resultsV_some {s : St} (hok : Ok X s) {e : Env} {a : Act} (hr : RelEnv s e a.tmps) : ∀ (rs : List ResultVar) (vs : List AV), resultsV X.P s.H e rs = some vs →
    ∃ ys : List Value, ys.length = vs.length ∧ (∀ (j : Nat) (x : AV) (y : Value), vs[j]? = some x → ys[j]? = some y → Rel s x y) ∧
      ∀ (g : ResultVar → Sem Value), (∀ t, g (.tmp t) = pure (a.tmps.getD t undef)) → (∀ c t, g (.cell c t) = (asAddr (a.tmps.getD c undef) >>= loadVar t)) → (rs.mapM g).run X.P s.w = .ok ys s.w
  | [], vs, h => by
    simp only [resultsV, Option.some.injEq] at h
    subst h
    exact ⟨[], rfl, by simp, fun g _ _ => by simp⟩
  | .tmp t :: rs, vs, h => by
    simp only [resultsV] at h
    split at h
    · rename_i vs' hv
      cases h
      obtain ⟨ys, h1, h2, h3⟩ := resultsV_some hok hr rs vs' hv
      refine ⟨a.tmps.getD t undef :: ys, by simp [h1], fun j x y hx hy => ?_, fun g hg hg2 => ?_⟩
      · cases j with
        | zero => simp at hx hy; subst hx; subst hy; simpa using hr.get t
        | succ j => exact h2 j x y (by simpa using hx) (by simpa using hy)
      · rw [List.mapM_cons, hg]
        simp only [Sem.run_bind, Sem.run_pure, Result.andThen_ok, h3 g hg hg2]
    · cases h
  | .cell c t :: rs, vs, h => by
    simp only [resultsV] at h
    split at h
    · rename_i v hv
      split at h
      · rename_i vs' hv'
        cases h
        obtain ⟨ys, h1, h2, h3⟩ := resultsV_some hok hr rs vs' hv'
        obtain ⟨cv, hrun, hrel⟩ := loadV_ok hok (hr.get c) hv
        refine ⟨cv :: ys, by simp [h1], fun j x y hx hy => ?_, fun g hg hg2 => ?_⟩
        · cases j with
          | zero => simp at hx hy; subst hx; subst hy; exact hrel
          | succ j => exact h2 j x y (by simpa using hx) (by simpa using hy)
        · rw [List.mapM_cons, hg2, Sem.run_bind, hrun]
          simp only [Sem.run_bind, Sem.run_pure, Result.andThen_ok, h3 g hg hg2]
      · cases h
    · cases h

theorem resultsK_at {s : St} (hok : Ok X s) {e : Env} {a : Act} (hr : RelEnv s e a.tmps) {fn : Func} {c : AV → Option β} {r : β} (h : resultsK X.P s.H e fn.results.toList c = some r) :
    ∃ v, c v = some r ∧ ∃ cv, Rel s v cv ∧ (results fn a.tmps).run X.P s.w = .ok cv s.w := by
  unfold resultsK at h
  split at h
  · rename_i vs hv
    obtain ⟨ys, h1, h2, h3⟩ := resultsV_some hok hr _ _ hv
    have hrun : (results fn a.tmps).run X.P s.w = .ok (if h : ys.toArray.size = 1 then ys.toArray[0] else .tuple ys.toArray) s.w := by
      unfold results
      rw [Array.mapM_eq_mapM_toList, Sem.run_bind]
      simp only [map_eq_pure_bind, Sem.run_bind]
      rw [h3 _ (fun t => rfl) (fun c t => rfl)]
      simp only [Sem.run_pure, Result.andThen_ok]
    split at h
    · rename_i x
      refine ⟨x, h, ?_⟩
      match ys, h1, h2, hrun with
      | [y], _, h2, hrun => exact ⟨y, h2 0 x y rfl rfl, by rw [hrun]; simp⟩
    · rename_i hne
      refine ⟨.tup vs, h, .tuple ys.toArray, .tup vs ys.toArray (by simpa using h1) (fun j x y hx hy => h2 j x y hx (by simpa using hy)), ?_⟩
      rw [hrun]
      have : ¬ (ys.toArray.size = 1) := by
        intro hs
        simp at hs
        rw [hs] at h1
        match vs, h1, hne with
        | [x], _, hne => exact hne x rfl
      rw [dif_neg this]
  · cases h

theorem resultsK_some {P : Program} {h : Heap} {e : Env} {rs : List ResultVar} {c : AV → Option β} {r : β} (hh : resultsK P h e rs c = some r) : ∃ v, c v = some r ∧ ∀ {γ : Type} (d : AV → Option γ), resultsK P h e rs d = d v := by
  unfold resultsK at hh
  split at hh
  · rename_i vs hv
    split at hh
    · rename_i x
      exact ⟨x, hh, fun d => by unfold resultsK; rw [hv]⟩
    · rename_i hne
      refine ⟨_, hh, fun d => ?_⟩
      unfold resultsK
      rw [hv]
      match vs, hne with
      | [], _ => rfl
      | [x], hne => exact absurd rfl (hne x)
      | _ :: _ :: _, _ => rfl
  · cases hh

theorem RelEnv.one {s : St} {v : AV} {cv : Value} (h : Rel s v cv) : RelEnv s [v] #[cv] := by
  refine ⟨rfl, fun j x y hx hy => ?_⟩
  cases j with
  | zero => simp at hx hy; subst hx; subst hy; exact h
  | succ j => simp at hx

theorem RelEnv.the {s : St} {v : AV} {cv : Value} (h : RelEnv s [v] #[cv]) : Rel s v cv := h.2 0 v cv rfl rfl

theorem enter_rel {s : St} {as : List AV} {cs : Array Value} (h : Rels s as cs) (n : Nat) :
    RelEnv s (as ++ List.replicate (n - as.length) (.tup [])) (cs ++ Array.replicate (n - cs.size) undef) := by
  have hl : cs.size = as.length := h.1
  refine ⟨by simp [hl], fun j x y hx hy => ?_⟩
  by_cases hj : j < as.length
  · rw [List.getElem?_append_left hj] at hx
    rw [Array.getElem?_append_left (by omega)] at hy
    exact h.2 j x y hx hy
  · rw [List.getElem?_append_right (by omega)] at hx
    rw [Array.getElem?_append_right (by omega)] at hy
    rw [List.getElem?_replicate] at hx
    rw [Array.getElem?_replicate] at hy
    split at hx
    · split at hy
      · cases hx; cases hy; exact undef_rel
      · cases hy
    · cases hx

theorem body_ok (hX : Sound X) {K : PureK} (hK : KOk X K) (n : Nat) : ∀ (d : Nat), InlOk X (β := β) (bodyK X K n d) := by
  intro d
  induction d with
  | zero => intro g as h c r he; cases he
  | succ d ih =>
    intro g as h c r he
    simp only [bodyK] at he
    split at he
    · unfold givenK at he
      split at he
      · rename_i hfree
        split at he
        · obtain ⟨v, hv, he⟩ := callK_some he
          have he := resultK_some he
          obtain ⟨_, he⟩ := br_yes he
          refine ⟨v, _, he, fun s hoks hH cs hr => ?_⟩
          subst hH
          obtain ⟨s1, hw1, hH1, hst1, hok1, hr1⟩ := freezeIds_ok (X := X) (idsOfs as) s s as cs hoks (.refl s) hr
          have := (hK g _ v hv).at hok1 hfree hr1
          rw [hw1] at this
          refine this.mono ?_
          rintro cv w' ⟨s', hw', hH', hst, hok', hrel⟩
          exact ⟨s', hw', hH'.trans hH1, hst1.trans hst, hok', hrel⟩
        · cases he
      · cases he
    split at he
    · rename_i hok
      split at he
      · rename_i fn hfn
        split at he
        · rename_i code hbody
          obtain ⟨hname, hgood⟩ := hX.fn g fn hok hfn
          obtain ⟨x, e', h', hk, hcode⟩ := code_ok hX.mix hK ih n code (hgood code hbody) (hX.lp g fn code hok hfn hbody) _ _ _ _ he
          -- the results, told ahead of any state
          have hres : ∃ v, c v (dropK h.length [v] h') = some r ∧ (∀ {γ : Type} (d : AV → Option γ), resultsK X.P h' e' fn.results.toList d = d v) ∧ (∀ i : Nat, x ≠ .exit i) ∧ ∀ i : Nat, x ≠ .goto i := by
            cases x with
            | normal => obtain ⟨v, h1, h2⟩ := resultsK_some hk; exact ⟨v, h1, h2, (fun i h => by cases h), fun i h => by cases h⟩
            | exit i => cases hk
            | goto i => cases hk
            | ret => obtain ⟨v, h1, h2⟩ := resultsK_some hk; exact ⟨v, h1, h2, (fun i h => by cases h), fun i h => by cases h⟩
          obtain ⟨v, hcv, hall, hx, hx2⟩ := hres
          refine ⟨v, _, hcv, fun s hoks hH cs hr => ?_⟩
          have hrun : (callFunc g cs).run X.P s.w = .ok (.enter g cs) s.w := by
            have h1 : fn.name ≠ "runtime.NumGoroutine" := by simpa using hname
            simp [callFunc, hfn, h1, hbody]
          rw [hrun]
          show Calls X.P g cs s.w _
          refine calls_of_wp hfn hbody ?_
          refine hcode s _ hoks hH (enter_rel hr fn.ntmps) _ fun s' a' hst hok' hH' hr' hd => ?_
          obtain ⟨v', hv', cv, hrel, hrn⟩ := resultsK_at (X := X) (c := fun v => some v) hok' hr' (by rw [hH']; exact hall _)
          cases hv'
          obtain ⟨s2, hw2, hH2, hst2, hok2, hr2⟩ := dropK_ok (n := h.length) (by rw [hH]; exact Nat.le_refl _) hok' hst (RelEnv.one hrel)
          have hpost : a'.defers = [] ∧ ∃ u, (results fn a'.tmps).run X.P s'.w = .ok u s'.w ∧ ∃ v_1, Ending.returned u = .returned v_1 ∧ ∃ s'' : St, s''.w = s'.w ∧ s''.H = dropK h.length [v] h' ∧ Step s s'' ∧ Ok X s'' ∧ Rel s'' v v_1 :=
            ⟨hd, cv, hrn, cv, rfl, s2, hw2, by rw [hH2, hH'], hst2, hok2, hr2.the⟩
          cases x with
          | normal => exact hpost
          | exit i => exact absurd rfl (hx i)
          | goto i => exact absurd rfl (hx2 i)
          | ret => exact hpost
        · cases he
      · cases he
    · cases he

theorem top_ok (hX : Sound X) {K : PureK} (hK : KOk X K) (n : Nat) (g : FuncId) (as : List AV) (v : AV) (h : topK X K n g as = some v) : PureCall X g as v := by
  unfold topK at h
  obtain ⟨v1, h1, hc, hcall⟩ := body_ok hX hK n inlDepth g as [] _ v h
  split at hc
  · obtain ⟨hf, hc⟩ := br_yes hc
    cases hc
    refine ⟨hf, fun s hok hH cs hr => ?_⟩
    refine (hcall s hok hH cs hr).mono ?_
    rintro cv w' ⟨s', rfl, hH', hst, hok', hrel⟩
    exact ⟨s', rfl, hH', hst, hok', hrel⟩
  have hfz := freezeIds_ok (X := X) (idsOf v1)
  generalize hF : freezeIds (idsOf v1) [v1] h1 = F at hc
  obtain ⟨e2, h2⟩ := F
  split at hc
  · rename_i v2 h3 heq
    cases heq
    obtain ⟨hf, hc⟩ := br_yes hc
    cases hc
    refine ⟨hf, fun s hok hH cs hr => ?_⟩
    refine (hcall s hok hH cs hr).mono ?_
    rintro cv w' ⟨s', rfl, hH', hst, hok', hrel⟩
    obtain ⟨s2, hw2, hH2, hst2, hok2, hr2⟩ := hfz s s' [v1] #[cv] hok' hst (RelEnv.one hrel)
    rw [hH', hF] at hH2 hr2
    obtain ⟨s3, hw3, hH3, hst3, hok3, hr3⟩ := dropK_ok (n := 0) (by rw [hH]; exact Nat.le_refl _) hok2 hst2 hr2
    refine ⟨s3, hw3.trans hw2, ?_, hst3, hok3, hr3.the⟩
    rw [hH3]
    unfold dropK dropD
    split
    · rename_i hle
      exact List.eq_nil_of_length_eq_zero (Nat.le_zero.1 (Nat.le_of_ble_eq_true hle))
    rw [show (refsBelows 0 [v] && heapBelow 0 (s2.H.take 0)) = true by
      simp only [Bool.and_eq_true, refsBelows, heapBelow]
      exact ⟨⟨below_of_free hf, trivial⟩, by simp⟩]
    simp
  · cases hc

theorem ev_ok (hX : Sound X) {ovr : FuncId → Option (List AV → Option AV)} (ho : ∀ g f, ovr g = some f → ∀ as v, f as = some v → PureCall X g as v) : ∀ (n : Nat), KOk X (evF X ovr n)
  | 0, g, as, v, h => by cases h
  | n + 1, g, as, v, h => by
    unfold evF at h
    split at h
    · exact ho g _ ‹_› as v h
    · exact top_ok hX (ev_ok hX ho n) n g as v h
end
end Go.Ab
