/- One operation, soundly, and what may be told of it elsewhere. -/
import Derived.Test.YtkkbdebmilagoaaGreatDoorAbTag
set_option linter.unusedSimpArgs false
set_option linter.unusedVariables false
namespace Go.Ab
open Go

section
variable {X : Ctx} {β : Type}

theorem opK_congr {f : FuncId} {o : Oper} {ρ ρ' : Operand → AV} {h : Heap} {c : AV → Heap → Tag → Option β} (hh : ∀ x ∈ o.op.operands, ρ x = ρ' x) :
    opK X f o ρ h c = opK X f o ρ' h c := by
  obtain ⟨dst, op, type, pos, after, guard⟩ := o
  have pairs : ∀ ps : Array (Nat × Operand), (∀ x ∈ ps.map (·.2), ρ x = ρ' x) →
      (ps.toList.map fun (i, x) => (i, ρ x)) = (ps.toList.map fun (i, x) => (i, ρ' x)) := fun ps hp =>
    List.map_congr_left fun p hm => by
      obtain ⟨i, x⟩ := p
      simp only [hp x (Array.mem_map.2 ⟨(i, x), Array.mem_toList_iff.1 hm, rfl⟩)]
  have lists : ∀ ps : Array Operand, (∀ x ∈ ps, ρ x = ρ' x) → ps.toList.map ρ = ps.toList.map ρ' := fun ps hp =>
    List.map_congr_left fun p hm => hp p (Array.mem_toList_iff.1 hm)
  have opts : ∀ l : Option Operand, (∀ x ∈ l.toArray, ρ x = ρ' x) → optInt ρ l = optInt ρ' l := by
    intro l hl
    cases l with
    | none => rfl
    | some x => simp only [optInt, hl x (by simp)]
  cases op <;> simp only [Op.operands] at hh <;> simp only [opK]
  case build t ps => rw [pairs ps fun x hx => hh x (by simpa using hx)]
  case buildSlice t n ps => rw [pairs ps fun x hx => hh x (by simpa using hx)]
  case makeFunc fn first cap => rw [lists first fun x hx => hh x (by simp [hx]), lists cap fun x hx => hh x (by simp [hx])]
  case slice t x lo hi mx => rw [opts lo fun x hx => hh x (by simp at hx; simp [hx]), opts hi fun x hx => hh x (by simp at hx; simp [hx]), hh x (by simp)]
  case call c =>
    obtain ⟨cl, args, ts⟩ := c
    cases cl with
    | builtin b =>
      simp only []
      rw [lists args fun x hx => hh x (by simp [Call.operands, hx])]
    | _ => rfl
  all_goals (first | rfl | (simp_all; done))

/-- What an operation does, over any memory that is told so. -/
def SoundAt (X : Ctx) (o : Oper) (ρ : Operand → AV) (h : Heap) (v : AV) (h' : Heap) : Prop :=
  ∀ (s : St) (a : Act), Ok X s → s.H = h → (∀ x ∈ o.op.operands, Rel s (ρ x) (a.eval x)) → ∀ (next : Act → World → Prop) (Q : Exit → Act → World → Prop),
    (∀ cv (s' : St), s'.H = h' → Step s s' → Ok X s' → Rel s' v cv → next (a.put o.dst cv) s'.w) → o.wp X.P a s.w next Q

theorem op_at {f : FuncId} {o : Oper} {ρ : Operand → AV} {h h' : Heap} {v : AV} {tg : Tag} (e : opK X f o ρ h (fun v h t => some (v, h, t)) = some (v, h', tg)) : SoundAt X o ρ h v h' := by
  intro s a hok hH hρ next Q hnext
  subst hH
  have hmem : ∀ x, Decidable (x ∈ o.op.operands) := fun x => Classical.propDecidable _
  have hc : opK X f o ρ s.H (fun v h t => some (v, h, t)) = opK X f o (fun x => if x ∈ o.op.operands then ρ x else .dead) s.H (fun v h t => some (v, h, t)) :=
    opK_congr fun x hx => by rw [if_pos hx]
  rw [hc] at e
  have hρ' : ∀ x, Rel s (if x ∈ o.op.operands then ρ x else .dead) (a.eval x) := by
    intro x
    split
    · exact hρ x ‹_›
    · exact .dead _
  obtain ⟨nx, cv, s', hrun, hnx, hH, hst, hok', hrel⟩ := op_sound (av := a.eval) hok hρ' e
  unfold Oper.wp
  rw [hrun]
  have hgo := hnext cv s' hH hst hok' hrel
  rcases hnx with rfl | ⟨rfl, rfl⟩ <;> exact hgo

/-- What an operation's tag says. -/
def TagOk (X : Ctx) (o : Oper) (ρ : Operand → AV) (h : Heap) (v : AV) (h' : Heap) : Tag → Prop
  | .pure => h' = h ∧ ∀ h2, SoundAt X o ρ h2 v h2
  | .rd id => h' = h ∧ id < h.length ∧ ∀ h2 : Heap, h2[id]? = h[id]? → SoundAt X o ρ h2 v h2
  | .al => ∃ ob, h' = h ++ [ob]
  | .wr id => ∀ j, j ≠ id → h'[j]? = h[j]?
  | .any => True

theorem step_ok {K : PureK} {inl : FuncId → List AV → Heap → (AV → Heap → Option β) → Option β} {f : FuncId} {o : Oper} {ρ : Operand → AV} {h : Heap} {c : AV → Heap → Tag → Option β} {r : β}
    (hK : KOk X K) (hinl : InlOk X inl) (he : stepK X K inl f o ρ h c = some r) :
    ∃ v h' tg, c v h' tg = some r ∧ SoundAt X o ρ h v h' ∧ TagOk X o ρ h v h' tg := by
  -- what is no call
  have plain : opK X f o ρ h c = some r → ∃ v h' tg, c v h' tg = some r ∧ SoundAt X o ρ h v h' ∧ TagOk X o ρ h v h' tg := by
    intro he
    have hn := opK_nat (β := AV × Heap × Tag) (γ := β) (fun p => c p.1 p.2.1 p.2.2) X f o ρ h (fun v h t => some (v, h, t))
    simp only [Option.bind_some] at hn
    rw [he] at hn
    obtain ⟨⟨v, h', tg⟩, h1, h2⟩ := Option.bind_eq_some_iff.1 hn
    refine ⟨v, h', tg, h2, op_at h1, ?_⟩
    have two := fun h2 => opK_two (h := h) (h2 := h2) X f o ρ v h' tg h1
    cases tg with
    | pure => exact ⟨(two h).1, fun h2 => op_at (two h2).2⟩
    | rd id => exact ⟨(two h).1, (two h).2.1, fun h2 hh => op_at ((two h2).2.2 hh)⟩
    | al => exact two h
    | wr id => exact two h
    | any => trivial
  -- a call of a function
  have call : ∀ (fo : Operand) (args : Array Operand) (ts : Array TypeId) (g : FuncId) (first cap : List AV) (v : AV) (h1 h' : Heap),
      o.op = .call { callee := .value fo, args := args, argTypes := ts } → ρ fo = .fn (.func g) first cap →
      CallAt X g (first ++ normArgs X.P ρ args.toList ts.toList ++ cap) h1 v h' → SoundAt X o ρ h1 v h' := by
    intro fo args ts g first cap v h1 h' hop hpf hcall s a hok hH hρ next Q hnext
    have hfo := hρ fo (by rw [hop]; simp [Op.operands, Call.operands])
    rw [hpf] at hfo
    generalize hvf : a.eval fo = vf at hfo
    cases hfo with
    | fn _ _ _ fs cs h1 h2 hf hc =>
    have hargs : ∀ x ∈ args.toList, Rel s (ρ x) (a.eval x) := fun x hx => hρ x (by rw [hop]; simp [Op.operands, Call.operands]; right; simpa using hx)
    have hrels : Rels s (first ++ normArgs X.P ρ args.toList ts.toList ++ cap) (fs ++ args.map a.eval ++ cs) := by
      refine rels_three h1 h2 (by rw [normArgs_length]; simp) hf hc ?_
      intro j x y hx hy
      refine normArgs_rel hargs ts.toList j x y hx ?_
      rw [← Array.toList_map, Array.getElem?_toList]
      exact hy
    have hn := (hcall s hok hH _ hrels).mono (R' := fun cv w' => next (a.put o.dst cv) w') (by
      rintro cv w' ⟨s', rfl, hH', hst, hok', hrel⟩
      exact hnext cv s' hH' hst hok' hrel)
    have hx : (execOp a.eval o).run X.P s.w = (callFunc g (fs ++ args.map a.eval ++ cs)).run X.P s.w := by
      simp only [execOp, hop, resolve, hvf, Deferred.ofValue, Sem.run_bind, Sem.run_pure, Result.andThen_ok, invoke]
    unfold Oper.wp
    rw [hx]
    cases hres : (callFunc g (fs ++ args.map a.eval ++ cs)).run X.P s.w with
    | halt x w => rw [hres] at hn; exact hn.elim
    | ok n w =>
      rw [hres] at hn
      cases n <;> first | exact hn | exact hn.elim | skip
      · refine Calls.mono hn ?_
        rintro e w' ⟨v, rfl, hv⟩
        exact hv
  unfold stepK at he
  split at he
  · rename_i fo args ts hop
    split at he
    · rename_i g first cap hpf
      split at he
      · rename_i hpure
        simp only [Bool.and_eq_true] at hpure
        split at he
        · rename_i fn hfn
          obtain ⟨v, hv, he⟩ := callK_some he
          have he := resultK_some he
          obtain ⟨_, he⟩ := br_yes he
          have hfree : refFrees (first ++ normArgs X.P ρ args.toList ts.toList ++ cap) = true := by
            refine refFrees_all fun z hz => ?_
            have hall := refFrees_mem hpure.2
            simp only [List.mem_append] at hz hall
            rcases hz with (hz | hz) | hz
            · exact hall z (.inl (.inl hz))
            · exact normArgs_free (fun x hx => hall _ (.inl (.inr (List.mem_map.2 ⟨x, hx, rfl⟩)))) z hz
            · exact hall z (.inr hz)
          have hall : ∀ h2, SoundAt X o ρ h2 v h2 := by
            intro h2
            refine call fo args ts g first cap v h2 h2 hop hpf ?_
            intro s hok hH cs hr
            refine ((hK g _ v hv).at hok hfree hr).mono ?_
            rintro cv w' ⟨s', rfl, hH', hst, hok', hrel⟩
            exact ⟨s', rfl, hH'.trans hH, hst, hok', hrel⟩
          exact ⟨v, h, .pure, he, hall h, rfl, hall⟩
        · cases he
      · obtain ⟨v, h', hc, hcall⟩ := hinl g _ h _ r he
        exact ⟨v, h', .any, hc, call fo args ts g first cap v h h' hop hpf hcall, trivial⟩
    · cases he
  · exact plain he
end
end Go.Ab
