/- A region, in the text's order and in any. -/
import Derived.Test.YtkkbdebmilagoaaGreatDoorAbCode
import Derived.Tactics
import Derived.StillTail
set_option linter.unusedSimpArgs false
set_option linter.unusedVariables false
namespace Go.Ab
open Go

/-- Is an operation's guard met? -/
def wantedB (ops : Array Oper) (o : Oper) (e : Env) : Option Bool :=
  match o.guard with
  | none => some true
  | some (j, want) => match (ops[j]?).bind (·.dst) with
    | none => some false
    | some t => match e.getD t .dead with
      | .v (.bool b) => some (b == want)
      | .tup [] => some false
      | _ => none

section
variable {X : Ctx} {β : Type}

theorem wantedK_some {ops : Array Oper} {o : Oper} {e : Env} {x y : Option β} {r : β} (h : wantedK ops o e x y = some r) :
    (wantedB ops o e = some true ∧ x = some r) ∨ (wantedB ops o e = some false ∧ y = some r) := by
  unfold wantedK at h
  unfold wantedB
  split at h
  · rename_i hg
    simp only [hg]
    exact .inl ⟨trivial, h⟩
  · rename_i j want hg
    simp only [hg]
    split at h
    · rename_i hd
      simp only [hd]
      exact .inr ⟨trivial, h⟩
    · rename_i t ht
      simp only [ht]
      split at h
      · rename_i b hb
        simp only [hb]
        rcases br_some h with ⟨h1, h2⟩ | ⟨h1, h2⟩
        · exact .inl ⟨by rw [h1], h2⟩
        · exact .inr ⟨by rw [h1], h2⟩
      · rename_i hb
        simp only [hb]
        exact .inr ⟨trivial, h⟩
      · cases h

theorem wanted_at {ops : Array Oper} {o : Oper} {e : Env} {a : Act} {s : St} {b : Bool} (h : wantedB ops o e = some b)
    (hr : ∀ j want t, o.guard = some (j, want) → (ops[j]?).bind (·.dst) = some t → Rel s (e.getD t .dead) (a.tmps.getD t undef)) : Region.wanted o (yielded ops a.tmps) = b := by
  unfold wantedB at h
  unfold Region.wanted
  split at h
  · rename_i hg
    simp only [hg]
    exact Option.some.inj h
  · rename_i j want hg
    simp only [hg]
    unfold yielded
    split at h
    · rename_i hd
      simp only [hd, Option.bind_none]
      cases h
      rfl
    · rename_i t ht
      have hrel := hr j want t hg ht
      simp only [ht, Option.bind_some]
      split at h
      · rename_i c hc
        rw [hc] at hrel
        generalize hy : a.tmps.getD t undef = y at hrel
        cases hrel
        have : a.tmps[t]? = some (.bool c) := by
          rw [Array.getD_eq_getD_getElem?] at hy
          cases hq : a.tmps[t]? with
          | none => rw [hq] at hy; simp [undef] at hy
          | some z => rw [hq] at hy; simp at hy; rw [hy]
        rw [this]
        simp only [Option.some.injEq] at h
        rw [← h]
        simp
      · rename_i hc
        rw [hc] at hrel
        generalize hy : a.tmps.getD t undef = y at hrel
        cases hrel with
        | tup cs vs h1 h2 =>
        rw [Array.getD_eq_getD_getElem?] at hy
        cases h
        cases hq : a.tmps[t]? with
        | none => rfl
        | some z => rw [hq] at hy; simp at hy; rw [hy]; rfl
      · cases h

theorem splitK_some {g : Bool} {x : AV} {c : AV → Option β} {r : β} (h : splitK g x c = some r) : c x = some r := by
  unfold splitK at h
  split at h
  · split at h
    · rename_i b
      rcases br_some h with ⟨rfl, h⟩ | ⟨rfl, h⟩ <;> exact h
    · exact h
  · exact h

/-- A run of a region in the text's order. -/
structure TrOk (X : Ctx) (ops : Array Oper) (i : Nat) (en : Nat → Env) (hp : Nat → Heap) (val : Nat → AV) (tg : Nat → Option Tag) : Prop where
  step : ∀ j o, i ≤ j → ops[j]? = some o → en (j + 1) = putT (en j) o.dst (val j) ∧
    ((wantedB ops o (en j) = some true ∧ ∃ t, tg j = some t ∧ SoundAt X o (opVal X (en j)) (hp j) (val j) (hp (j + 1)) ∧ TagOk X o (opVal X (en j)) (hp j) (val j) (hp (j + 1)) t) ∨
     (wantedB ops o (en j) = some false ∧ tg j = none ∧ val j = .tup [] ∧ hp (j + 1) = hp j))

theorem opsK_some {K : PureK} {inl : FuncId → List AV → Heap → (AV → Heap → Option β) → Option β} {f : FuncId} {ops : Array Oper} (hK : KOk X K) (hinl : InlOk X inl) {k : Env → Heap → List Ent → Option β} {r : β} :
    ∀ (rest : List Oper) (i : Nat) (e : Env) (h : Heap) (tr : List Ent), (∀ j, rest[j]? = ops[i + j]?) → opsK X K inl f ops rest i e h tr k = some r →
      ∃ en hp val tg tr', en i = e ∧ hp i = h ∧ TrOk X ops i en hp val tg ∧ k (en (i + rest.length)) (hp (i + rest.length)) tr' = some r ∧ (∀ x ∈ tr, x ∈ tr') ∧
        ∀ j t, i ≤ j → j < i + rest.length → tg j = some t → ∀ o, ops[j]? = some o → ({ idx := j, len := (hp j).length, tag := t, o := o, e := en j, x := val j, h1 := hp (j + 1) } : Ent) ∈ tr' := by
  intro rest
  induction rest with
  | nil =>
    intro i e h tr hrest he
    refine ⟨fun _ => e, fun _ => h, fun _ => .dead, fun _ => none, tr, rfl, rfl, ⟨fun j o hj ho => ?_⟩, he, fun x hx => hx, fun j t h1 h2 => by simp at h2; omega⟩
    have := hrest (j - i)
    rw [Nat.add_sub_cancel' hj, ho] at this
    simp at this
  | cons o rest ih =>
    intro i e h tr hrest he
    have h0 : ops[i]? = some o := by simpa using (hrest 0).symm
    have hrest' : ∀ j, rest[j]? = ops[i + 1 + j]? := fun j => by have := hrest (j + 1); simpa [Nat.add_assoc, Nat.add_comm 1 j] using this
    have hlen : i + (o :: rest).length = i + 1 + rest.length := by simp; omega
    -- what is done here, ahead of the rest
    have glue : ∀ (v : AV) (h1 : Heap) (t0 : Option Tag) (tr1 : List Ent), (∀ x ∈ tr, x ∈ tr1) → (∀ t, t0 = some t → ({ idx := i, len := h.length, tag := t, o := o, e := e, x := v, h1 := h1 } : Ent) ∈ tr1) →
        ((wantedB ops o e = some true ∧ ∃ t, t0 = some t ∧ SoundAt X o (opVal X e) h v h1 ∧ TagOk X o (opVal X e) h v h1 t) ∨ (wantedB ops o e = some false ∧ t0 = none ∧ v = .tup [] ∧ h1 = h)) →
        opsK X K inl f ops rest (i + 1) (putT e o.dst v) h1 tr1 k = some r →
        ∃ en hp val tg tr', en i = e ∧ hp i = h ∧ TrOk X ops i en hp val tg ∧ k (en (i + (o :: rest).length)) (hp (i + (o :: rest).length)) tr' = some r ∧ (∀ x ∈ tr, x ∈ tr') ∧
          ∀ j t, i ≤ j → j < i + (o :: rest).length → tg j = some t → ∀ o, ops[j]? = some o → ({ idx := j, len := (hp j).length, tag := t, o := o, e := en j, x := val j, h1 := hp (j + 1) } : Ent) ∈ tr' := by
      intro v h1 t0 tr1 hsub hent hstep hrun
      obtain ⟨en, hp, val, tg, tr', e1, e2, htr, hk, hin, hall⟩ := ih (i + 1) _ _ _ hrest' hrun
      refine ⟨fun j => if j = i then e else en j, fun j => if j = i then h else hp j, fun j => if j = i then v else val j, fun j => if j = i then t0 else tg j, tr', by simp, by simp, ⟨fun j oj hj hoj => ?_⟩, ?_, fun x hx => hin x (hsub x hx), fun j t hj hj2 ht o' ho' => ?_⟩
      · by_cases hji : j = i
        · subst hji
          rw [h0] at hoj
          obtain rfl := Option.some.inj hoj
          have hne : ¬ (j + 1 = j) := by omega
          simp only [if_true, hne, if_false, e1, e2]
          exact ⟨trivial, hstep⟩
        · have hne : ¬ (j + 1 = i) := by omega
          simp only [hji, hne, if_false]
          exact htr.step j oj (by omega) hoj
      · rw [hlen]
        have hne : ¬ (i + 1 + rest.length = i) := by omega
        simp only [hne, if_false]
        exact hk
      · by_cases hji : j = i
        · subst hji
          rw [h0] at ho'
          obtain rfl := Option.some.inj ho'
          have hne : ¬ (j + 1 = j) := by omega
          simp only [if_true, hne, if_false, e2] at ht ⊢
          exact hin _ (hent t ht)
        · have hne : ¬ (j + 1 = i) := by omega
          simp only [hji, hne, if_false] at ht ⊢
          exact hall j t (by omega) (by rw [hlen] at hj2; exact hj2) ht o' ho'
    simp only [opsK] at he
    rcases wantedK_some he with ⟨hw, he⟩ | ⟨hw, he⟩
    · obtain ⟨v, h1, t, hc, hs, ht⟩ := step_ok hK hinl he
      have hc := splitK_some hc
      exact glue v h1 (some t) _ (fun x hx => List.mem_cons_of_mem _ hx) (fun t' ht' => by cases ht'; exact List.mem_cons_self) (.inl ⟨hw, t, rfl, hs, ht⟩) hc
    · exact glue (.tup []) h none tr (fun x hx => hx) (fun t ht => by cases ht) (.inr ⟨hw, rfl, rfl, rfl⟩) he

theorem opVal_rel' {s : St} (hok : Ok X s) {e : Env} {a : Act} {x : Operand} (hr : ∀ t, x = .tmp t → Rel s (e.getD t .dead) (a.tmps.getD t undef)) : Rel s (opVal X e x) (a.eval x) := by
  cases x with
  | tmp t => exact hr t rfl
  | const v =>
    simp only [opVal, Act.eval]
    split
    · exact .nil _
    · split
      · exact .v _ ‹_›
      · exact .dead _
  | global g =>
    simp only [opVal, Act.eval]
    split
    · exact (hok.glob g _ ‹_›).rel
    · exact .dead _
  | func f => exact .fn _ [] [] #[] #[] rfl rfl (by simp) (by simp)

/-- In the text's order. -/
theorem text_wp {ops : Array Oper} {Q : Exit → Act → World → Prop} {en : Nat → Env} {hp : Nat → Heap} {val : Nat → AV} {tg : Nat → Option Tag} (htr : TrOk X ops 0 en hp val tg) :
    ∀ (rest : List Oper) (i : Nat), (∀ j, rest[j]? = ops[i + j]?) → ∀ (s : St) (a : Act), Ok X s → s.H = hp i → RelEnv s (en i) a.tmps →
      (∀ (s' : St) (a' : Act), Step s s' → Ok X s' → s'.H = hp (i + rest.length) → RelEnv s' (en (i + rest.length)) a'.tmps → a'.defers = a.defers → Q .normal a' s'.w) →
      wpList X.P ops Q rest a s.w := by
  intro rest
  induction rest with
  | nil =>
    intro i hrest s a hok hH hr hQ
    exact hQ s a (.refl s) hok hH hr rfl
  | cons o rest ih =>
    intro i hrest s a hok hH hr hQ
    have h0 : ops[i]? = some o := by simpa using (hrest 0).symm
    have hrest' : ∀ j, rest[j]? = ops[i + 1 + j]? := fun j => by have := hrest (j + 1); simpa [Nat.add_assoc, Nat.add_comm 1 j] using this
    have hlen : i + (o :: rest).length = i + 1 + rest.length := by simp; omega
    obtain ⟨hen, hst⟩ := htr.step i o (Nat.zero_le _) h0
    have hgd : ∀ j want t, o.guard = some (j, want) → (ops[j]?).bind (·.dst) = some t → Rel s ((en i).getD t .dead) (a.tmps.getD t undef) := fun _ _ t _ _ => hr.get t
    unfold wpList
    rcases hst with ⟨hw, t, _, hs, _⟩ | ⟨hw, _, hv, hh⟩
    · rw [if_pos (wanted_at hw hgd)]
      refine .inl (hs s a hok hH (fun x _ => opVal_rel hok hr x) _ _ fun cv s' hH' hst hok' hrel => ?_)
      refine ih (i + 1) hrest' s' (a.put o.dst cv) hok' hH' ?_ ?_
      · rw [hen]
        exact (hr.mono hst).put hrel
      · intro s'' a'' h1 h2 h3 h4 h5
        rw [← hlen] at h3 h4
        refine hQ s'' a'' (hst.trans h1) h2 h3 h4 (h5.trans ?_)
        cases o.dst <;> rfl
    · rw [if_neg (by rw [wanted_at hw hgd]; simp)]
      refine ih (i + 1) hrest' s (a.put o.dst undef) hok (hH.trans hh.symm) ?_ ?_
      · rw [hen, hv]
        exact hr.put undef_rel
      · intro s'' a'' h1 h2 h3 h4 h5
        rw [← hlen] at h3 h4
        refine hQ s'' a'' h1 h2 h3 h4 (h5.trans ?_)
        cases o.dst <;> rfl
end
end Go.Ab
