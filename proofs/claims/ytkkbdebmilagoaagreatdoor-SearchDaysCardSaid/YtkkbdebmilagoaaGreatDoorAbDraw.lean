/- A region in any order that its edges let. -/
import Derived.Test.YtkkbdebmilagoaaGreatDoorAbReg
set_option linter.unusedSimpArgs false
set_option linter.unusedVariables false
namespace Go.Ab
open Go

def Closed (ops : Array Oper) (L : Nat → Prop) : Prop :=
  ∀ j o, ops[j]? = some o → L j → ∀ e ∈ o.after, Region.binds .any e = true → L e.on

def Before (ops : Array Oper) (i j : Nat) : Prop :=
  i < j ∧ ∀ L, Closed ops L → (∀ o, ops[j]? = some o → ∀ e ∈ o.after, Region.binds .any e = true → L e.on) → L i

/-- Edges lead back, and what touches one temporary is ordered. -/
def regionGood (ops : Array Oper) : Bool :=
  let b := aheads ops.toList []
  (List.range ops.size).all fun j => match ops[j]? with
    | none => true
    | some oj => (oj.after.toList.all fun e => !Region.binds .any e || Nat.blt e.on j) &&
        (List.range j).all fun i => match ops[i]? with
          | none => true
          | some oi => (b.getD j 0).testBit i || oi.apart ops oj

theorem aheadOf_bit {bs : List Nat} {o : Oper} {i : Nat} (h : (aheadOf bs o).testBit i = true) :
    ∃ e ∈ o.after, Region.binds .any e = true ∧ (i = e.on ∨ (bs.getD e.on 0).testBit i = true) := by
  have key : ∀ (l : List Edge) (b0 : Nat), (l.foldl (fun b e => match Region.binds .any e with
      | true => b ||| (1 <<< e.on) ||| bs.getD e.on 0
      | false => b) b0).testBit i = true → b0.testBit i = true ∨ ∃ e ∈ l, Region.binds .any e = true ∧ (i = e.on ∨ (bs.getD e.on 0).testBit i = true) := by
    intro l
    induction l with
    | nil => exact fun b0 h => .inl h
    | cons e l ih =>
      intro b0 h
      simp only [List.foldl_cons] at h
      rcases ih _ h with h | ⟨e', he', h⟩
      · cases hb : Region.binds .any e with
        | true =>
          rw [hb] at h
          simp only [Nat.testBit_or, Bool.or_eq_true, Nat.one_shiftLeft, Nat.testBit_two_pow, decide_eq_true_eq] at h
          rcases h with (h | h) | h
          · exact .inl h
          · exact .inr ⟨e, List.mem_cons_self, hb, .inl h.symm⟩
          · exact .inr ⟨e, List.mem_cons_self, hb, .inr h⟩
        | false =>
          rw [hb] at h
          exact .inl h
      · exact .inr ⟨e', List.mem_cons_of_mem _ he', h⟩
  rcases key o.after.toList 0 h with h | ⟨e, he, h⟩
  · simp at h
  · exact ⟨e, Array.mem_toList_iff.1 he, h⟩

theorem aheads_ok {ops : Array Oper} (low : ∀ j o e, ops[j]? = some o → e ∈ o.after → Region.binds .any e = true → e.on < j) :
    ∀ (os : List Oper) (bs : List Nat), (∀ j, os[j]? = ops[bs.length + j]?) → (∀ j i, (bs.getD j 0).testBit i = true → Before ops i j) →
      ∀ j i, ((aheads os bs).getD j 0).testBit i = true → Before ops i j
  | [], bs, _, h => h
  | o :: os, bs, hos, h => by
    have h0 : ops[bs.length]? = some o := by simpa using (hos 0).symm
    refine aheads_ok low os (bs ++ [aheadOf bs o]) (fun j => by have := hos (j + 1); simpa [Nat.add_assoc, Nat.add_comm 1 j] using this) fun j i hb => ?_
    rw [List.getD_eq_getElem?_getD] at hb
    rcases Nat.lt_trichotomy j bs.length with hj | hj | hj
    · rw [List.getElem?_append_left hj, ← List.getD_eq_getElem?_getD] at hb
      exact h j i hb
    · subst hj
      simp at hb
      obtain ⟨e, he, hbd, hi⟩ := aheadOf_bit hb
      have hlow := low _ o e h0 he hbd
      rcases hi with rfl | hi
      · exact ⟨hlow, fun L _ hp => hp o h0 e he hbd⟩
      · have hbf := h _ _ hi
        refine ⟨Nat.lt_trans hbf.1 hlow, fun L hL hp => hbf.2 L hL fun o' ho' e' he' hb' => ?_⟩
        exact hL _ o' ho' (hp o h0 e he hbd) e' he' hb'
    · rw [List.getElem?_eq_none (by simp; omega)] at hb
      simp at hb

structure Good (ops : Array Oper) : Prop where
  low : ∀ j o e, ops[j]? = some o → e ∈ o.after → Region.binds .any e = true → e.on < j
  ord : ∀ i j, ordered (aheads ops.toList []) i j = true → Before ops i j ∨ Before ops j i
  pair : ∀ i j oi oj, i < j → ops[i]? = some oi → ops[j]? = some oj → Before ops i j ∨ oi.apart ops oj = true
  bit : ∀ i j, ((aheads ops.toList []).getD j 0).testBit i = true → Before ops i j

theorem good_of {ops : Array Oper} (h : regionGood ops = true) : Good ops := by
  unfold regionGood at h
  simp only [List.all_eq_true, List.mem_range] at h
  have hj : ∀ j oj, ops[j]? = some oj → (∀ e ∈ oj.after, Region.binds .any e = true → e.on < j) ∧
      ∀ i, i < j → ∀ oi, ops[i]? = some oi → ((aheads ops.toList []).getD j 0).testBit i = true ∨ oi.apart ops oj = true := by
    intro j oj hoj
    have := h j (Array.getElem?_eq_some_iff.1 hoj).1
    rw [hoj] at this
    simp only [Bool.and_eq_true, List.all_eq_true, List.mem_range] at this
    refine ⟨fun e he hb => ?_, fun i hi oi hoi => ?_⟩
    · have h1 := this.1 e (Array.mem_toList_iff.2 he)
      rw [hb] at h1
      simpa [Nat.blt_eq] using h1
    · have h1 := this.2 i hi
      rw [hoi] at h1
      simpa using h1
  have low : ∀ j o e, ops[j]? = some o → e ∈ o.after → Region.binds .any e = true → e.on < j := fun j o e ho he hb => (hj j o ho).1 e he hb
  have ah := aheads_ok low ops.toList [] (by simp) (by simp)
  refine ⟨low, fun i j ho => ?_, fun i j oi oj hij hoi hoj => ((hj j oj hoj).2 i hij oi hoi).imp (ah j i) id, fun i j h => ah j i h⟩
  unfold ordered at ho
  simp only [Bool.or_eq_true] at ho
  exact ho.imp (ah j i) (ah i j)

section
variable {X : Ctx} {ops : Array Oper} {en : Nat → Env} {hp : Nat → Heap} {val : Nat → AV} {tg : Nat → Option Tag}

def dstOf (ops : Array Oper) (j : Nat) : Option Tmp := (ops[j]?).bind (·.dst)

/-- Writers of memory are ordered, and what reads elsewhere doesn't mind. -/
def Redo (X : Ctx) (ops : Array Oper) (en : Nat → Env) (hp : Nat → Heap) (val : Nat → AV) (tg : Nat → Option Tag) (j : Nat) : Prop :=
  ∀ o, ops[j]? = some o → ∀ m, m ≤ ops.size → (∀ k tk, k < ops.size → tg k = some tk → writes tk = true → Before ops j k → m ≤ k) → SoundAt X o (opVal X (en j)) (hp m) (val j) (hp m)
def DrawOk (X : Ctx) (ops : Array Oper) (en : Nat → Env) (hp : Nat → Heap) (val : Nat → AV) (tg : Nat → Option Tag) : Prop :=
  ∀ i j ti tj, tg i = some ti → tg j = some tj → i < ops.size → j < ops.size → writes ti = true → i = j ∨ Before ops i j ∨ Before ops j i ∨
    tj = .pure ∨ ∃ id, tj = .rd id ∧ ((ti = .al ∧ id < (hp i).length) ∨ (∃ k, ti = .wr k ∧ id ≠ k) ∨ Redo X ops en hp val tg j)

abbrev entOf (en : Nat → Env) (hp : Nat → Heap) (val : Nat → AV) (j : Nat) (t : Tag) (o : Oper) : Ent := { idx := j, len := (hp j).length, tag := t, o := o, e := en j, x := val j, h1 := hp (j + 1) }
theorem drawOk_of (hg : Good ops) {tr : List Ent} (h : drawOk ops tr = true) (hin : ∀ j t, j < ops.size → tg j = some t → ∀ o, ops[j]? = some o → entOf en hp val j t o ∈ tr) : DrawOk X ops en hp val tg := by
  intro i j ti tj hi hj hi2 hj2 hw
  unfold drawOk at h
  simp only [List.all_eq_true] at h
  have h1 := h _ (hin i ti hi2 hi _ (Array.getElem?_eq_getElem hi2))
  simp only [hw] at h1
  have h2 := List.all_eq_true.1 h1 _ (hin j tj hj2 hj _ (Array.getElem?_eq_getElem hj2))
  simp only [Bool.or_eq_true] at h2
  rcases h2 with (h2 | h2) | h2
  · exact .inl (Nat.eq_of_beq_eq_true h2)
  · rcases hg.ord _ _ h2 with h2 | h2
    · exact .inr (.inl h2)
    · exact .inr (.inr (.inl h2))
  · refine .inr (.inr (.inr ?_))
    cases tj with
    | pure => exact .inl rfl
    | rd id =>
      refine .inr ⟨id, rfl, ?_⟩
      cases ti with
      | al => exact .inl ⟨rfl, by simpa [Nat.blt_eq] using h2⟩
      | wr k => exact .inr (.inl ⟨k, rfl, by simp only [Bool.not_eq_true'] at h2; exact Nat.ne_of_beq_eq_false h2⟩)
      | _ => cases h2
    | _ => cases h2

theorem TrOk.same (htr : TrOk X ops 0 en hp val tg) {j : Nat} (hj : j < ops.size) (h : ∀ t, tg j = some t → writes t = false) : hp (j + 1) = hp j := by
  obtain ⟨_, hst⟩ := htr.step j ops[j] (Nat.zero_le _) (Array.getElem?_eq_getElem hj)
  rcases hst with ⟨_, t, ht, _, hk⟩ | ⟨_, _, _, hh⟩
  · have := h t ht
    cases t <;> first | exact hk.1 | cases this
  · exact hh

theorem sameV_eq {a b : Value} (h : sameV a b = true) : a = b := by
  unfold sameV at h
  split at h
  · rename_i k n k' m
    split at h
    · rename_i hk
      have hk := of_decide_eq_true hk
      rw [hk, beq_iff_eq.1 h]
    · cases h
  · rename_i s t
    unfold strEq at h
    have h := beq_iff_eq.1 h
    cases s; cases t
    simp at h
    rw [h]
  · rw [beq_iff_eq.1 h]
  · cases h
theorem sameAV_eq {a b : AV} (h : sameAV a b = true) : a = b := by
  unfold sameAV at h
  split at h
  · rw [sameV_eq h]
  · cases h
theorem redoK_some {β : Type} {f : FuncId} {y : Ent} {h : Heap} {k : Option β} {r : β} (he : redoK X f y h k = some r) : k = some r ∧ SoundAt X y.o (opVal X y.e) h y.x h := by
  unfold redoK at he
  obtain ⟨v, h1, t, hc, hs, ht⟩ := step_ok (K := fun _ _ => none) (fun _ _ _ h => by cases h) (fun g as h c r he => by cases he) he
  split at hc
  · rename_i hq
    obtain ⟨hsame, hk⟩ := br_yes hc
    have hv := sameAV_eq hsame
    have hh : h1 = h := by
      cases t with
      | pure => exact ht.1
      | rd i => exact ht.1
      | al => cases hq
      | wr i => cases hq
      | any => cases hq
    subst hh
    subst hv
    exact ⟨hk, hs⟩
  · cases hc
theorem redosK_some {β : Type} {f : FuncId} {y : Ent} {k : Option β} {r : β} : ∀ {hs : List Heap}, redosK X f y hs k = some r → k = some r ∧ ∀ h ∈ hs, SoundAt X y.o (opVal X y.e) h y.x h
  | [], he => ⟨he, fun _ h => by cases h⟩
  | h :: hs, he => by
    obtain ⟨h1, h2⟩ := redoK_some he
    obtain ⟨h3, h4⟩ := redosK_some h1
    refine ⟨h3, fun h' hm => ?_⟩
    rcases List.mem_cons.1 hm with rfl | hm
    · exact h2
    · exact h4 h' hm
theorem redoAll_some {β : Type} {f : FuncId} {hs : Ent → List Heap} {k : Option β} {r : β} : ∀ {ys : List Ent}, redoAll X f hs ys k = some r → k = some r ∧ ∀ y ∈ ys, ∀ h ∈ hs y, SoundAt X y.o (opVal X y.e) h y.x h
  | [], he => ⟨he, fun _ h => by cases h⟩
  | y :: ys, he => by
    obtain ⟨h1, h2⟩ := redosK_some he
    obtain ⟨h3, h4⟩ := redoAll_some h1
    refine ⟨h3, fun y' hm => ?_⟩
    rcases List.mem_cons.1 hm with rfl | hm
    · exact h2
    · exact h4 y' hm
theorem heaps_mem (hg : Good ops) (htr : TrOk X ops 0 en hp val tg) {tr : List Ent} (hin : ∀ j t, j < ops.size → tg j = some t → ∀ o, ops[j]? = some o → entOf en hp val j t o ∈ tr) {y : Ent} : ∀ m, m ≤ ops.size →
    (∀ k tk, k < ops.size → tg k = some tk → writes tk = true → Before ops y.idx k → m ≤ k) → hp m ∈ heapsOf (aheads ops.toList []) (hp 0) tr y
  | 0, _, _ => List.mem_cons_self
  | m + 1, hm, hc => by
    by_cases hw : ∃ t, tg m = some t ∧ writes t = true
    · obtain ⟨t, ht, hw⟩ := hw
      refine List.mem_cons_of_mem _ (List.mem_map.2 ⟨_, List.mem_filter.2 ⟨hin m t (by omega) ht _ (Array.getElem?_eq_getElem (by omega)), ?_⟩, rfl⟩)
      simp only [hw, Bool.true_and, Bool.not_eq_true']
      cases hb : ((aheads ops.toList []).getD m 0).testBit y.idx with
      | false => rfl
      | true => exact absurd (hc m t (by omega) ht hw (hg.bit _ _ hb)) (by omega)
    · rw [htr.same (by omega) fun t ht => by
        cases hx : writes t with
        | true => exact absurd ⟨t, ht, hx⟩ hw
        | false => rfl]
      exact heaps_mem hg htr hin m (by omega) fun k tk h1 h2 h3 h4 => by have := hc k tk h1 h2 h3 h4; omega
theorem drawK_of {β : Type} (hg : Good ops) (htr : TrOk X ops 0 en hp val tg) {f : FuncId} {tr : List Ent} {k : Option β} {r : β} (he : drawK X f ops (hp 0) tr k = some r)
    (hin : ∀ j t, j < ops.size → tg j = some t → ∀ o, ops[j]? = some o → entOf en hp val j t o ∈ tr) : k = some r ∧ DrawOk X ops en hp val tg := by
  unfold drawK at he
  split at he
  · rename_i h
    exact ⟨he, drawOk_of hg h hin⟩
  · split at he
    · rename_i h
      obtain ⟨hk, hall⟩ := redoAll_some he
      refine ⟨hk, ?_⟩
      intro i j ti tj hi hj hi2 hj2 hw
      unfold drawOk2 at h
      have h1 := List.all_eq_true.1 h _ (hin i ti hi2 hi _ (Array.getElem?_eq_getElem hi2))
      simp only [hw] at h1
      have h2 := List.all_eq_true.1 h1 _ (hin j tj hj2 hj _ (Array.getElem?_eq_getElem hj2))
      simp only [Bool.or_eq_true] at h2
      rcases h2 with (h2 | h2) | h2
      · exact .inl (Nat.eq_of_beq_eq_true h2)
      · rcases hg.ord _ _ h2 with h2 | h2
        · exact .inr (.inl h2)
        · exact .inr (.inr (.inl h2))
      · refine (Classical.em (i = j ∨ Before ops i j ∨ Before ops j i)).elim (fun h => h.elim .inl fun h => .inr (h.elim .inl fun h => .inr (.inl h))) fun hno => .inr (.inr (.inr ?_))
        cases tj with
        | pure => exact .inl rfl
        | rd id =>
          refine .inr ⟨id, rfl, ?_⟩
          cases hsep : sepB (entOf en hp val i ti ops[i]) id with
          | true =>
            unfold sepB at hsep
            cases ti with
            | al => exact .inl ⟨rfl, by simpa [Nat.blt_eq] using hsep⟩
            | wr k => exact .inr (.inl ⟨k, rfl, by simp only [Bool.not_eq_true'] at hsep; exact Nat.ne_of_beq_eq_false hsep⟩)
            | _ => cases hsep
          | false =>
            refine .inr (.inr fun o ho m hm hcm => ?_)
            have hy := hin j (.rd id) hj2 hj o ho
            refine hall _ (List.mem_filter.2 ⟨hy, ?_⟩) _ (heaps_mem hg htr hin (y := entOf en hp val j (.rd id) o) m hm hcm)
            show (tr.any fun x => match writes x.tag with
              | true => !(Nat.beq x.idx j || ordered (aheads ops.toList []) x.idx j || sepB x id)
              | false => false) = true
            refine List.any_eq_true.2 ⟨_, hin i ti hi2 hi _ (Array.getElem?_eq_getElem hi2), ?_⟩
            simp only [hw, hsep, Bool.or_false, Bool.not_eq_true', Bool.or_eq_false_iff]
            refine ⟨?_, ?_⟩
            · cases hb : Nat.beq i j with
              | false => rfl
              | true => exact absurd (.inl (Nat.eq_of_beq_eq_true hb)) hno
            · cases hb : ordered (aheads ops.toList []) i j with
              | false => rfl
              | true => exact absurd (.inr (hg.ord _ _ hb)) hno
        | _ => cases h2
    · cases he

theorem TrOk.const (htr : TrOk X ops 0 en hp val tg) {a : Nat} : ∀ (b : Nat), a ≤ b → b ≤ ops.size → (∀ j t, a ≤ j → j < b → tg j = some t → writes t = false) → hp b = hp a := by
  intro b
  induction b with
  | zero => intro h _ _; rw [Nat.le_zero.1 h]
  | succ b ih =>
    intro h h2 h3
    by_cases hab : a = b + 1
    · rw [hab]
    · rw [htr.same (by omega) (fun t ht => h3 b t (by omega) (by omega) ht), ih (by omega) (by omega) fun j t h4 h5 => h3 j t h4 (by omega)]

theorem TrOk.chain (htr : TrOk X ops 0 en hp val tg) {id a : Nat} : ∀ (b : Nat), a ≤ b → b ≤ ops.size →
    (∀ j t, a ≤ j → j < b → tg j = some t → writes t = true → (t = .al ∧ id < (hp j).length) ∨ ∃ k, t = .wr k ∧ id ≠ k) → (hp b)[id]? = (hp a)[id]? := by
  intro b
  induction b with
  | zero => intro h _ _; rw [Nat.le_zero.1 h]
  | succ b ih =>
    intro h h2 h3
    by_cases hab : a = b + 1
    · rw [hab]
    · rw [← ih (by omega) (by omega) fun j t h4 h5 => h3 j t h4 (by omega)]
      by_cases hw : ∃ t, tg b = some t ∧ writes t = true
      · obtain ⟨t, ht, hw⟩ := hw
        obtain ⟨_, hst⟩ := htr.step b ops[b] (Nat.zero_le _) (Array.getElem?_eq_getElem (by omega))
        rcases hst with ⟨_, t', ht', _, hk⟩ | ⟨_, ht', _⟩
        · rw [ht] at ht'
          obtain rfl := Option.some.inj ht'
          rcases h3 b t (by omega) (by omega) ht hw with ⟨rfl, hl⟩ | ⟨k, rfl, hl⟩
          · obtain ⟨ob, hob⟩ := hk
            rw [hob, List.getElem?_append_left hl]
          · exact hk id hl
        · rw [ht] at ht'; cases ht'
      · rw [htr.same (by omega) fun t ht => by
          cases hx : writes t with
          | true => exact absurd ⟨t, ht, hx⟩ hw
          | false => rfl]

theorem putT_length (e : Env) (d : Option Tmp) (x : AV) : (putT e d x).length = e.length := by cases d <;> simp [putT]

theorem TrOk.env (htr : TrOk X ops 0 en hp val tg) : ∀ i, i ≤ ops.size → (en i).length = (en 0).length ∧ ∀ t x, (en i)[t]? = some x →
    (∃ j, j < i ∧ dstOf ops j = some t ∧ x = val j ∧ ∀ k, j < k → k < i → dstOf ops k ≠ some t) ∨ ((∀ k, k < i → dstOf ops k ≠ some t) ∧ (en 0)[t]? = some x) := by
  intro i
  induction i with
  | zero => exact fun _ => ⟨rfl, fun t x h => .inr ⟨fun k hk => absurd hk (Nat.not_lt_zero _), h⟩⟩
  | succ i ih =>
    intro hi
    obtain ⟨hl, hx⟩ := ih (by omega)
    obtain ⟨hen, _⟩ := htr.step i ops[i] (Nat.zero_le _) (Array.getElem?_eq_getElem (by omega))
    have hd : dstOf ops i = ops[i].dst := by simp [dstOf, Array.getElem?_eq_getElem (show i < ops.size by omega)]
    refine ⟨by rw [hen, putT_length, hl], fun t x h => ?_⟩
    rw [hen] at h
    by_cases hdt : dstOf ops i = some t
    · left
      refine ⟨i, Nat.lt_succ_self _, hdt, ?_, fun k h1 h2 => by omega⟩
      rw [← hd, hdt] at h
      simp only [putT] at h
      rw [List.getElem?_set] at h
      simp only [if_true] at h
      split at h
      · exact (Option.some.inj h).symm
      · cases h
    · have h' : (en i)[t]? = some x := by
        rw [← hd] at h
        cases hq : dstOf ops i with
        | none => rw [hq] at h; exact h
        | some d =>
          rw [hq] at h hdt
          simp only [putT] at h
          rwa [List.getElem?_set_ne (fun h => hdt (by rw [h]))] at h
      rcases hx t x h' with ⟨j, h1, h2, h3, h4⟩ | ⟨h1, h2⟩
      · refine .inl ⟨j, by omega, h2, h3, fun k h5 h6 => ?_⟩
        by_cases hki : k = i
        · subst hki; exact hdt
        · exact h4 k h5 (by omega)
      · refine .inr ⟨fun k hk => ?_, h2⟩
        by_cases hki : k = i
        · subst hki; exact hdt
        · exact h1 k (by omega)

def Lst (listed : Array Bool) (i : Nat) : Prop := listed.getD i false = true

/-- What holds between two operations, whatever came already. -/
structure DInv (X : Ctx) (ops : Array Oper) (en : Nat → Env) (hp : Nat → Heap) (val : Nat → AV) (tg : Nat → Option Tag) (s0 : St) (ds : List Deferred) (listed : Array Bool) (a : Act) (s : St) (m : Nat) : Prop where
  size : listed.size = ops.size
  closed : Closed ops (Lst listed)
  ok : Ok X s
  st : Step s0 s
  H : s.H = hp m
  mle : m ≤ ops.size
  sep : ∀ j t, j < ops.size → tg j = some t → writes t = true → (Lst listed j ↔ j < m)
  len : a.tmps.size = (en 0).length
  tmp : ∀ t y, a.tmps[t]? = some y → (∀ j, j < ops.size → dstOf ops j = some t → Lst listed j → (∀ k, j < k → k < ops.size → dstOf ops k = some t → ¬ Lst listed k) → Rel s (val j) y) ∧
    ((∀ j, j < ops.size → dstOf ops j = some t → ¬ Lst listed j) → ∀ x, (en 0)[t]? = some x → Rel s x y)
  defers : a.defers = ds

theorem lst_set {listed : Array Bool} {i j : Nat} (hi : i < listed.size) : Lst (listed.setIfInBounds i true) j ↔ (Lst listed j ∨ j = i) := by
  unfold Lst
  by_cases hij : i = j
  · subst hij
    simp [hi]
  · rw [getD_set_ne false hij]
    exact ⟨.inl, fun h => h.resolve_right (fun h => hij h.symm)⟩

theorem draw_step {Q : Exit → Act → World → Prop} (hg : Good ops) (htr : TrOk X ops 0 en hp val tg) (hd : DrawOk X ops en hp val tg) {s0 s : St} {ds : List Deferred} {listed : Array Bool} {a : Act} {m i : Nat}
    (inv : DInv X ops en hp val tg s0 ds listed a s m) (hi : i ∈ Region.ready .any ops listed) :
    wpOp X.P ops Q i (fun a' w' => ∃ s' m', s'.w = w' ∧ DInv X ops en hp val tg s0 ds (listed.setIfInBounds i true) a' s' m') a s.w := by
  obtain ⟨hun, o, ho, hpre⟩ := mem_ready.1 hi
  have hiN : i < ops.size := (Array.getElem?_eq_some_iff.1 ho).1
  have hmle := inv.mle
  have hnl : ¬ Lst listed i := fun h => by
    unfold Lst at h
    rw [getD_both hun] at h
    cases h
  have F1 : ∀ k, Before ops k i → Lst listed k := fun k hk => hk.2 _ inv.closed fun o' ho' e he hb => by
    rw [ho] at ho'
    obtain rfl := Option.some.inj ho'
    exact hpre e he hb
  have F2 : ∀ k, k < ops.size → Before ops i k → ¬ Lst listed k := fun k hkN hk hl => hnl (hk.2 _ inv.closed fun o' ho' e he hb => inv.closed k o' ho' hl e he hb)
  have hdi : dstOf ops i = o.dst := by simp [dstOf, ho]
  -- what it reads was written as in the text
  have rdT : ∀ t, t ∈ o.looksAt ops → ∀ k, k < ops.size → dstOf ops k = some t → k ≠ i → (k < i → Lst listed k) ∧ (i < k → ¬ Lst listed k) := by
    intro t ht k hk hdk hki
    have hok := Array.getElem?_eq_getElem hk
    have hdk' : ops[k].dst = some t := by simpa [dstOf, hok] using hdk
    refine ⟨fun h => ?_, fun h => ?_⟩
    · rcases hg.pair k i _ o h hok ho with hb | hb
      · exact F1 k hb
      · exact absurd ht ((Oper.apart_spec hb).1 t hdk')
    · rcases hg.pair i k o _ h ho hok with hb | hb
      · exact F2 k hk hb
      · exact absurd ht ((Oper.apart_spec hb).2.2 t hdk')
  obtain ⟨hlen, henv⟩ := htr.env i (Nat.le_of_lt hiN)
  have relT : ∀ t, t ∈ o.looksAt ops → Rel s ((en i).getD t .dead) (a.tmps.getD t undef) := by
    intro t ht
    by_cases hl : t < (en i).length
    · have h1 : (en i)[t]? = some (en i)[t] := List.getElem?_eq_getElem hl
      have hl2 : t < a.tmps.size := by rw [inv.len, ← hlen]; exact hl
      have h2 : a.tmps[t]? = some a.tmps[t] := Array.getElem?_eq_getElem hl2
      rw [List.getD_eq_getElem?_getD, h1, Array.getD_eq_getD_getElem?, h2]
      simp only [Option.getD_some]
      obtain ⟨c1, c2⟩ := inv.tmp t _ h2
      rcases henv t _ h1 with ⟨j, h3, h4, h5, h6⟩ | ⟨h3, h4⟩
      · rw [h5]
        refine c1 j (by omega) h4 ((rdT t ht j (by omega) h4 (by omega)).1 h3) fun k h7 h8 h9 => ?_
        rcases Nat.lt_trichotomy k i with h | h | h
        · exact absurd h9 (h6 k h7 h)
        · subst h; exact hnl
        · exact (rdT t ht k h8 h9 (by omega)).2 h
      · refine c2 (fun j h5 h6 => ?_) _ h4
        rcases Nat.lt_trichotomy j i with h | h | h
        · exact absurd h6 (h3 j h)
        · subst h; exact hnl
        · exact (rdT t ht j h5 h6 (by omega)).2 h
    · rw [List.getD_eq_getElem?_getD, List.getElem?_eq_none (Nat.le_of_not_lt hl)]
      exact .dead _
  -- the state behind it
  have next : ∀ (s' : St) (cv : Value) (m' : Nat), Step s s' → Ok X s' → s'.H = hp m' → m' ≤ ops.size → Rel s' (val i) cv →
      (∀ j t, j < ops.size → tg j = some t → writes t = true → ((Lst listed j ∨ j = i) ↔ j < m')) →
      DInv X ops en hp val tg s0 ds (listed.setIfInBounds i true) (a.put o.dst cv) s' m' := by
    intro s' cv m' hst hok hH hm hrel hsep
    have hset : ∀ j, Lst (listed.setIfInBounds i true) j ↔ (Lst listed j ∨ j = i) := fun j => lst_set (by rw [inv.size]; exact hiN)
    refine ⟨by simp [inv.size], fun j oj hoj hl e he hb => ?_, hok, inv.st.trans hst, hH, hm, fun j t h1 h2 h3 => (hset j).trans (hsep j t h1 h2 h3), ?_, fun t y hy => ?_, ?_⟩
    · rw [hset] at hl ⊢
      rcases hl with hl | rfl
      · exact .inl (inv.closed j oj hoj hl e he hb)
      · rw [ho] at hoj
        obtain rfl := Option.some.inj hoj
        exact .inl (hpre e he hb)
    · rw [← inv.len]
      cases o.dst <;> simp [Act.put]
    · by_cases hdt : o.dst = some t
      · have hy' : y = cv := by
          rw [hdt] at hy
          simp only [Act.put] at hy
          by_cases hl : t < a.tmps.size
          · rw [Array.getElem?_setIfInBounds_self_of_lt hl] at hy
            exact (Option.some.inj hy).symm
          · have hn : (a.tmps.setIfInBounds t cv)[t]? = none := Array.getElem?_eq_none (by simpa using Nat.le_of_not_lt hl)
            rw [hn] at hy; cases hy
        subst hy'
        refine ⟨fun j h1 h2 h3 h4 => ?_, fun h1 => absurd ((hset i).2 (.inr rfl)) (h1 i hiN (by rw [hdi]; exact hdt))⟩
        by_cases hji : j = i
        · subst hji; exact hrel
        · exfalso
          rw [hset] at h3
          have h3 := h3.resolve_right hji
          rcases Nat.lt_or_gt_of_ne hji with h | h
          · exact h4 i h hiN (by rw [hdi]; exact hdt) ((hset i).2 (.inr rfl))
          · have hoj := Array.getElem?_eq_getElem h1
            rcases hg.pair i j o _ h ho hoj with hb | hb
            · exact F2 j h1 hb h3
            · exact (Oper.apart_spec hb).2.1 t hdt (by simpa [dstOf, hoj] using h2)
      · have hy' : a.tmps[t]? = some y := by
          cases hq : o.dst with
          | none => rw [hq] at hy; exact hy
          | some d =>
            rw [hq] at hy hdt
            simp only [Act.put] at hy
            rwa [Array.getElem?_setIfInBounds_ne (fun h => hdt (by rw [h]))] at hy
        obtain ⟨c1, c2⟩ := inv.tmp t y hy'
        have hne : ∀ j, dstOf ops j = some t → j ≠ i := fun j hj h => hdt (by rw [← hdi, ← h]; exact hj)
        refine ⟨fun j h1 h2 h3 h4 => ?_, fun h1 x hx => ?_⟩
        · rw [hset] at h3
          refine (c1 j h1 h2 (h3.resolve_right (hne j h2)) fun k h5 h6 h7 h8 => h4 k h5 h6 h7 ((hset k).2 (.inl h8))).mono hst
        · exact (c2 (fun j h2 h3 h4 => h1 j h2 h3 ((hset j).2 (.inl h4))) x hx).mono hst
    · rw [← inv.defers]
      cases o.dst <;> rfl
  have hgd : ∀ j want t, o.guard = some (j, want) → (ops[j]?).bind (·.dst) = some t → Rel s ((en i).getD t .dead) (a.tmps.getD t undef) := by
    intro j want t h1 h2
    refine relT t ?_
    unfold Oper.looksAt
    rw [h1]
    simp [h2]
  have hops : ∀ x ∈ o.op.operands, Rel s (opVal X (en i) x) (a.eval x) := by
    intro x hx
    refine opVal_rel' inv.ok fun t ht => relT t ?_
    subst ht
    unfold Oper.looksAt
    refine List.mem_append_left _ (List.mem_filterMap.2 ⟨.tmp t, by simpa using hx, rfl⟩)
  obtain ⟨_, hstep⟩ := htr.step i o (Nat.zero_le _) ho
  unfold wpOp
  simp only [ho]
  rcases hstep with ⟨hw, t, ht, hs, htag⟩ | ⟨hw, ht, hv, hh⟩
  · rw [if_pos (wanted_at hw hgd)]
    left
    cases hwr : writes t with
    | true =>
      have hm : hp m = hp i := by
        rcases Nat.le_total m i with hmi | hmi
        · refine (htr.const i hmi (Nat.le_of_lt hiN) fun j tj h1 h2 h3 => ?_).symm
          cases hwj : writes tj with
          | false => rfl
          | true =>
            exfalso
            have hl : ¬ Lst listed j := fun h => absurd ((inv.sep j tj (by omega) h3 hwj).1 h) (by omega)
            rcases hd j i tj t h3 ht (by omega) hiN hwj with h | h | h | h | ⟨id, h, _⟩
            · omega
            · exact hl (F1 j h)
            · exact absurd h.1 (by omega)
            · subst h; cases hwr
            · subst h; cases hwr
        · refine htr.const m hmi inv.mle fun j tj h1 h2 h3 => ?_
          cases hwj : writes tj with
          | false => rfl
          | true =>
            exfalso
            have hl := (inv.sep j tj (by omega) h3 hwj).2 h2
            rcases hd j i tj t h3 ht (by omega) hiN hwj with h | h | h | h | ⟨id, h, _⟩
            · subst h; exact hnl hl
            · exact absurd h.1 (by omega)
            · exact F2 j (by omega) h hl
            · subst h; cases hwr
            · subst h; cases hwr
      refine hs s a inv.ok (inv.H.trans hm) hops _ _ fun cv s' hH hst hok hrel => ⟨s', i + 1, rfl, next s' cv (i + 1) hst hok hH hiN hrel fun j tj h1 h2 h3 => ?_⟩
      rcases hd j i tj t h2 ht h1 hiN h3 with h | h | h | h | ⟨id, h, _⟩
      · exact ⟨fun _ => by omega, fun _ => .inr h⟩
      · exact ⟨fun _ => by have := h.1; omega, fun _ => .inl (F1 j h)⟩
      · refine ⟨fun hl => ?_, fun hl => by have := h.1; omega⟩
        rcases hl with hl | hl
        · exact absurd hl (F2 j h1 h)
        · have := h.1; omega
      · subst h; cases hwr
      · subst h; cases hwr
    | false =>
      have hs' : SoundAt X o (opVal X (en i)) (hp m) (val i) (hp m) := by
        cases t with
        | pure => exact htag.2 _
        | rd id =>
          by_cases hre : Redo X ops en hp val tg i
          · exact hre o ho m inv.mle fun k tk hk htk hwk hb => Nat.le_of_not_lt fun hlt => F2 k hk hb ((inv.sep k tk hk htk hwk).2 hlt)
          refine htag.2.2 _ ?_
          have cond : ∀ j tj, j < ops.size → tg j = some tj → writes tj = true → (¬ (Before ops j i) ∧ ¬ (Before ops i j)) → (tj = .al ∧ id < (hp j).length) ∨ ∃ k, tj = .wr k ∧ id ≠ k := by
            intro j tj h1 h2 h3 h4
            rcases hd j i tj _ h2 ht h1 hiN h3 with h | h | h | h | ⟨id', h, hc⟩
            · subst h; rw [ht] at h2; cases h2; cases h3
            · exact absurd h h4.1
            · exact absurd h h4.2
            · cases h
            · cases h; exact hc.elim .inl fun h => h.elim .inr fun h => absurd h hre
          rcases Nat.le_total m i with hmi | hmi
          · refine (htr.chain i hmi (Nat.le_of_lt hiN) fun j tj h1 h2 h3 h4 => cond j tj (by omega) h3 h4 ⟨fun h => ?_, fun h => absurd h.1 (by omega)⟩).symm
            exact absurd ((inv.sep j tj (by omega) h3 h4).1 (F1 j h)) (by omega)
          · refine htr.chain m hmi inv.mle fun j tj h1 h2 h3 h4 => cond j tj (by omega) h3 h4 ⟨fun h => absurd h.1 (by omega), fun h => ?_⟩
            exact F2 j (by omega) h ((inv.sep j tj (by omega) h3 h4).2 h2)
        | _ => cases hwr
      refine hs' s a inv.ok inv.H hops _ _ fun cv s' hH hst hok hrel => ⟨s', m, rfl, next s' cv m hst hok hH inv.mle hrel fun j tj h1 h2 h3 => ?_⟩
      have hji : j ≠ i := fun h => by subst h; rw [ht] at h2; cases h2; rw [hwr] at h3; cases h3
      exact ⟨fun h => (inv.sep j tj h1 h2 h3).1 (h.resolve_right hji), fun h => .inl ((inv.sep j tj h1 h2 h3).2 h)⟩
  · rw [if_neg (by rw [wanted_at hw hgd]; simp)]
    refine ⟨s, m, rfl, next s undef m (.refl s) inv.ok inv.H inv.mle (by rw [hv]; exact undef_rel) fun j tj h1 h2 h3 => ?_⟩
    have hji : j ≠ i := fun h => by subst h; rw [ht] at h2; cases h2
    exact ⟨fun h => (inv.sep j tj h1 h2 h3).1 (h.resolve_right hji), fun h => .inl ((inv.sep j tj h1 h2 h3).2 h)⟩

/-- How many are left. -/
def left (listed : Array Bool) (n : Nat) : Nat := ((List.range n).filter fun i => !listed.getD i true).length

theorem filter_lt {p q : Nat → Bool} : ∀ {l : List Nat} {x : Nat}, (∀ y, q y = true → p y = true) → x ∈ l → p x = true → q x = false → (l.filter q).length < (l.filter p).length
  | y :: l, x, hpq, hx, hp, hq => by
    have hle : (l.filter q).length ≤ (l.filter p).length := by
      clear hx
      induction l with
      | nil => simp
      | cons z l ih =>
        simp only [List.filter_cons]
        cases hz : q z with
        | true => rw [hpq z hz]; simp; exact ih
        | false => cases p z <;> simp <;> omega
    simp only [List.filter_cons]
    rcases List.mem_cons.1 hx with rfl | hx
    · rw [hp, hq]; simp; omega
    · have := filter_lt hpq hx hp hq
      cases hy : q y with
      | true => rw [hpq y hy]; simp; exact this
      | false => cases p y <;> simp <;> omega

theorem left_set {listed : Array Bool} {i n : Nat} (hi : i < n) (hs : i < listed.size) (hu : listed.getD i true = false) : left (listed.setIfInBounds i true) n < left listed n := by
  unfold left
  refine filter_lt (x := i) (fun y hy => ?_) (List.mem_range.2 hi) (by rw [hu]; rfl) ?_
  · by_cases hiy : i = y
    · subst hiy; rw [hu]; rfl
    · rwa [getD_set_ne true hiy] at hy
  · simp [hs]

/-- When nothing is ready all is done. -/
theorem all_listed (hg : Good ops) {listed : Array Bool} (hsz : listed.size = ops.size) (hr : Region.ready .any ops listed = []) : ∀ i, i < ops.size → Lst listed i := by
  intro i
  induction i using Nat.strongRecOn with
  | _ i ih =>
    intro hi
    by_cases hl : Lst listed i
    · exact hl
    · exfalso
      have ho := Array.getElem?_eq_getElem hi
      have : i ∈ Region.ready .any ops listed := by
        refine mem_ready.2 ⟨?_, ops[i], ho, fun e he hb => ?_⟩
        · have h1 : listed.getD i false = false := by unfold Lst at hl; simpa using hl
          exact getD_in (by rw [hsz]; exact hi) h1
        · have hlow := hg.low i _ e ho he hb
          exact ih e.on hlow (by omega)
      rw [hr] at this
      cases this

theorem draw_wp {Q : Exit → Act → World → Prop} (hg : Good ops) (htr : TrOk X ops 0 en hp val tg) (hd : DrawOk X ops en hp val tg) {s0 : St} {ds : List Deferred}
    (hQ : ∀ (s' : St) (a' : Act), Step s0 s' → Ok X s' → s'.H = hp ops.size → RelEnv s' (en ops.size) a'.tmps → a'.defers = ds → Q .normal a' s'.w) :
    ∀ (fuel : Nat) (listed : Array Bool) (a : Act) (s : St) (m : Nat), DInv X ops en hp val tg s0 ds listed a s m → left listed ops.size ≤ fuel → wpAny X.P .any ops Q fuel listed a s.w := by
  have done : ∀ (listed : Array Bool) (a : Act) (s : St) (m : Nat), DInv X ops en hp val tg s0 ds listed a s m → Region.ready .any ops listed = [] → Q .normal a s.w := by
    intro listed a s m inv hr
    have hall := all_listed hg inv.size hr
    have hm : hp m = hp ops.size := by
      refine (htr.const ops.size inv.mle (Nat.le_refl _) fun j t h1 h2 h3 => ?_).symm
      cases hw : writes t with
      | false => rfl
      | true =>
        have := (inv.sep j t h2 h3 hw).1 (hall j h2)
        omega
    obtain ⟨hlen, henv⟩ := htr.env ops.size (Nat.le_refl _)
    refine hQ s a inv.st inv.ok (inv.H.trans hm) ⟨inv.len.trans hlen.symm, fun t x y hx hy => ?_⟩ inv.defers
    obtain ⟨c1, c2⟩ := inv.tmp t y hy
    rcases henv t x hx with ⟨j, h1, h2, h3, h4⟩ | ⟨h1, h2⟩
    · rw [h3]
      exact c1 j h1 h2 (hall j h1) fun k h5 h6 h7 => absurd h7 (h4 k h5 h6)
    · exact c2 (fun j h3 h4 => absurd h4 (h1 j h3)) x h2
  intro fuel
  induction fuel with
  | zero =>
    intro listed a s m inv hf
    have hr : Region.ready .any ops listed = [] := by
      cases hq : Region.ready .any ops listed with
      | nil => rfl
      | cons i rest =>
        exfalso
        have hi : i ∈ Region.ready .any ops listed := by rw [hq]; exact List.mem_cons_self
        obtain ⟨hun, o, ho, _⟩ := mem_ready.1 hi
        have hiN : i < ops.size := (Array.getElem?_eq_some_iff.1 ho).1
        have := left_set (listed := listed) hiN (by rw [inv.size]; exact hiN) hun
        omega
    exact ⟨hr, done listed a s m inv hr⟩
  | succ fuel ih =>
    intro listed a s m inv hf
    refine ⟨done listed a s m inv, fun i hi => ?_⟩
    obtain ⟨hun, o, ho, _⟩ := mem_ready.1 hi
    have hiN : i < ops.size := (Array.getElem?_eq_some_iff.1 ho).1
    have hlt := left_set (listed := listed) hiN (by rw [inv.size]; exact hiN) hun
    refine wpOp_mono ?_ (draw_step (Q := Q) hg htr hd inv hi)
    rintro a' w' ⟨s', m', rfl, inv'⟩
    exact ih _ a' s' m' inv' (by omega)
end
end Go.Ab
