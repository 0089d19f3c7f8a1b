/- One step of a region, calls too. -/
import Derived.Test.YtkkbdebmilagoaaGreatDoorAbOps8
set_option linter.unusedSimpArgs false
set_option linter.unusedVariables false
namespace Go.Ab
open Go

def RelEnv (s : St) (e : Env) (tmps : Array Value) : Prop :=
  tmps.size = e.length ∧ ∀ (j : Nat) (x : AV) (y : Value), e[j]? = some x → tmps[j]? = some y → Rel s x y

def Rels (s : St) (as : List AV) (vs : Array Value) : Prop := RelEnv s as vs

section
variable {X : Ctx} {s : St}

theorem RelEnv.mono {s' : St} (h : Step s s') {e : Env} {t : Array Value} (hr : RelEnv s e t) : RelEnv s' e t :=
  ⟨hr.1, fun j x y hx hy => (hr.2 j x y hx hy).mono h⟩

theorem RelEnv.get {e : Env} {t : Array Value} (hr : RelEnv s e t) (j : Nat) : Rel s (e.getD j .dead) (t.getD j undef) := by
  by_cases hj : j < e.length
  · have hj' : j < t.size := by rw [hr.1]; exact hj
    rw [List.getD_eq_getElem?_getD, List.getElem?_eq_getElem hj]
    simp only [Option.getD_some]
    rw [Array.getD_eq_getD_getElem?, Array.getElem?_eq_getElem hj']
    exact hr.2 j _ _ (List.getElem?_eq_getElem hj) (Array.getElem?_eq_getElem hj')
  · rw [List.getD_eq_getElem?_getD, List.getElem?_eq_none (by omega)]
    exact .dead _

theorem opVal_rel (hok : Ok X s) {e : Env} {a : Act} (hr : RelEnv s e a.tmps) (x : Operand) : Rel s (opVal X e x) (a.eval x) := by
  cases x with
  | tmp t => exact hr.get t
  | const v =>
    simp only [opVal, Act.eval]
    split
    · exact .nil _
    · split
      · exact .v _ ‹_›
      · exact .dead _
  | global g =>
    simp only [opVal, Act.eval]
    split
    · exact (hok.glob g _ ‹_›).rel
    · exact .dead _
  | func f => exact .fn _ [] [] #[] #[] rfl rfl (by simp) (by simp)

theorem RelEnv.put {e : Env} {a : Act} (hr : RelEnv s e a.tmps) {d : Option Tmp} {x : AV} {v : Value} (hx : Rel s x v) : RelEnv s (putT e d x) (a.put d v).tmps := by
  cases d with
  | none => exact hr
  | some d =>
    refine ⟨by simp [Act.put, putT, hr.1], ?_⟩
    intro j y z hy hz
    simp only [putT, Act.put] at hy hz
    by_cases hj : d = j
    · subst hj
      rw [List.getElem?_set] at hy
      simp only [if_true] at hy
      split at hy
      · simp at hy; subst hy
        rename_i hlt
        rw [Array.getElem?_setIfInBounds_self_of_lt (by rw [hr.1]; exact hlt)] at hz
        simp at hz; subst hz
        exact hx
      · cases hy
    · rw [List.getElem?_set_ne hj] at hy
      rw [Array.getElem?_setIfInBounds_ne hj] at hz
      exact hr.2 j y z hy hz

theorem undef_rel : Rel s (.tup []) undef := .tup [] #[] rfl (by simp)

/-- What a call comes to, against what is wanted of it. -/
def NextWp (P : Program) (R : Value → World → Prop) : Result Next → Prop
  | .ok (.value v) w => R v w
  | .ok (.enter f args) w => Calls P f args w fun e w' => ∃ v, e = .returned v ∧ R v w'
  | .ok (.row row args) w => Rows P row args w R
  | _ => False

theorem NextWp.mono {P : Program} {R R' : Value → World → Prop} (h : ∀ v w, R v w → R' v w) {r : Result Next} (hr : NextWp P R r) : NextWp P R' r := by
  cases r with
  | halt x w => exact hr
  | ok n w =>
    cases n <;> first | exact h _ _ hr | exact hr | skip
    · exact Calls.mono hr fun e w' ⟨v, he, hv⟩ => ⟨v, he, h _ _ hv⟩
    · exact Rows.mono hr h

/-- A function of plain values: called over any memory, it returns its value and has left alone all that was there. -/
def PureCall (X : Ctx) (g : FuncId) (as : List AV) (v : AV) : Prop :=
  refFree v = true ∧ ∀ (s : St), Ok X s → s.H = [] → ∀ (cs : Array Value), Rels s as cs →
    NextWp X.P (fun cv w' => ∃ s' : St, s'.w = w' ∧ s'.H = [] ∧ Step s s' ∧ Ok X s' ∧ Rel s' v cv) ((callFunc g cs).run X.P s.w)

def KOk (X : Ctx) (K : PureK) : Prop := ∀ g as v, K g as = some v → PureCall X g as v

/-- A call with memory of one's own. -/
def CallAt (X : Ctx) (g : FuncId) (as : List AV) (h : Heap) (v : AV) (h' : Heap) : Prop :=
  ∀ (s : St), Ok X s → s.H = h → ∀ (cs : Array Value), Rels s as cs →
    NextWp X.P (fun cv w' => ∃ s' : St, s'.w = w' ∧ s'.H = h' ∧ Step s s' ∧ Ok X s' ∧ Rel s' v cv) ((callFunc g cs).run X.P s.w)

def InlOk (X : Ctx) {β : Type} (inl : FuncId → List AV → Heap → (AV → Heap → Option β) → Option β) : Prop :=
  ∀ g as h c r, inl g as h c = some r → ∃ v h', c v h' = some r ∧ CallAt X g as h v h'

theorem cells_free {x y : AV} {j : Nat} (h : refFree x = true) (hy : x.cells[j]? = some y) : refFree y = true := by
  cases x with
  | agg cs => exact refFrees_mem (by simp only [refFree] at h; exact h) _ (List.mem_of_getElem? hy)
  | _ =>
    cases j with
    | zero => simp [AV.cells] at hy; subst hy; exact h
    | succ j => simp [AV.cells] at hy

/-- References: a value without any is worth the same whoever owns what, so long as none of its memory is theirs. -/
theorem Rel.pure {s s' : St} (hw : s'.w = s.w) (hp : ∀ b, s.Priv b → s'.Priv b) (hp' : ∀ b, s'.Priv b → s.Priv b) {x : AV} {v : Value} (hr : Rel s x v) (hf : refFree x = true) : Rel s' x v := by
  induction hr with
  | v x hx => exact .v x hx
  | nil es => exact .nil es
  | empty es a cap => exact .empty es a cap
  | lst es rows b off cap vals hcap hpriv hes hfree hcell hc _ ih =>
    refine .lst es rows b off cap vals hcap (fun hne => ⟨by rw [hw]; exact (hpriv hne).1, fun h => (hpriv hne).2 (hp' _ h)⟩) hes hfree hcell (fun i j hi hj => by rw [hw]; exact hc i j hi hj) ?_
    intro i j x y hx hy
    refine ih i j x y hx hy ?_
    exact cells_free (hfree x (List.mem_of_getElem? hx)) hy
  | own => simp [refFree] at hf
  | ownStale => simp [refFree] at hf
  | ptr => simp [refFree] at hf
  | ptrStale => simp [refFree] at hf
  | pl row off b base vals hsz hpriv hfree hcell hc _ ih =>
    refine .pl row off b base vals (by rw [hw]; exact hsz) (fun h => hpriv (hp' _ h)) hfree hcell (fun j hj => by rw [hw]; exact hc j hj) ?_
    intro j y hy
    exact ih j y hy (cells_free hfree hy)
  | fn f first cap fs cs h1 h2 _ _ ih1 ih2 =>
    simp only [refFree, Bool.and_eq_true] at hf
    exact .fn f first cap fs cs h1 h2 (fun j x y hx hy => ih1 j x y hx hy (refFrees_mem hf.1 _ (List.mem_of_getElem? hx))) (fun j x y hx hy => ih2 j x y hx hy (refFrees_mem hf.2 _ (List.mem_of_getElem? hx)))
  | iface t x v _ ih => exact .iface t x v (ih (by simpa [refFree] using hf))
  | agg cs vs h1 hcell _ ih =>
    simp only [refFree] at hf
    exact .agg cs vs h1 hcell (fun j x y hx hy => ih j x y hx hy (refFrees_mem hf _ (List.mem_of_getElem? hx)))
  | tup cs vs h1 _ ih =>
    simp only [refFree] at hf
    exact .tup cs vs h1 (fun j x y hx hy => ih j x y hx hy (refFrees_mem hf _ (List.mem_of_getElem? hx)))
  | junk v hv => exact .junk v hv
  | dead v => exact .dead v

/-- A pure call, made with memory of one's own at hand. -/
theorem PureCall.at {g : FuncId} {as : List AV} {v : AV} (h : PureCall X g as v) (hok : Ok X s) (hf : refFrees as = true) {cs : Array Value} (hr : Rels s as cs) :
    NextWp X.P (fun cv w' => ∃ s' : St, s'.w = w' ∧ s'.H = s.H ∧ Step s s' ∧ Ok X s' ∧ Rel s' v cv) ((callFunc g cs).run X.P s.w) := by
  obtain ⟨hfv, h⟩ := h
  let s0 : St := { w := s.w, H := [], loc := s.loc, mask := fun b => s.Priv b }
  have hp1 : ∀ b, s.Priv b → s0.Priv b := fun b hb => .inr hb
  have hp2 : ∀ b, s0.Priv b → s.Priv b := fun b hb => by
    rcases hb with ⟨i, o, ho, _⟩ | hb
    · simp [s0] at ho
    · exact hb
  have hno0 : ∀ b, ¬ s0.Own b := fun b ⟨i, o, ho, _⟩ => by simp [s0] at ho
  have hok0 : Ok X s0 := by
    refine ⟨fun i j oi oj hi => by simp [s0] at hi, fun i o ho => by simp [s0] at ho, fun g x hx => ?_, fun b hb => ?_⟩
    · refine (hok.glob g x hx).here rfl fun hg => Rel.pure (s := s) (s' := s0) rfl hp1 hp2 hg ?_
      rfl
    · rcases hb with ⟨i, o, ho, hl, hb⟩ | hb
      · have := (hok.obj i o ho hl).lt
        show b < s.w.heap.size
        omega
      · exact hok.maskLt b hb
  have hr0 : Rels s0 as cs := ⟨hr.1, fun j x y hx hy => Rel.pure (s := s) (s' := s0) rfl hp1 hp2 (hr.2 j x y hx hy) (refFrees_mem hf _ (List.mem_of_getElem? hx))⟩
  refine (h s0 hok0 rfl cs hr0).mono ?_
  rintro cv w' ⟨s0', hw', hH', hst, hok', hrel⟩
  have hno0' : ∀ b, ¬ s0'.Own b := fun b ⟨i, o, ho, _⟩ => by rw [hH'] at ho; simp at ho
  let s' : St := { w := w', H := s.H, loc := s.loc, mask := s.mask }
  have hkeep : ∀ b, b < s.w.heap.size → w'.heap[b]? = s.w.heap[b]? := fun b hb => by rw [← hw']; exact hst.keep b hb (hno0 b)
  have hsize : s.w.heap.size ≤ w'.heap.size := by rw [← hw']; exact hst.size
  have hst' : Step s s' := by
    refine ⟨(show SameIo s.w w' by rw [← hw']; exact hst.io), rfl, hsize, fun b hb _ => hkeep b hb, fun b hb hn => hn, fun i o ho => ⟨o, ho, fun h => h, fun _ => Nat.le_refl _, fun _ _ => ⟨rfl, rfl, rfl, rfl, fun cur ty _ hc => ⟨cur, ?_, rfl⟩⟩⟩⟩
    have := (Array.getElem?_eq_some_iff.1 hc).1
    simp only [s']
    rw [hkeep _ this]
    exact hc
  refine ⟨s', rfl, rfl, hst', ?_, ?_⟩
  · refine ⟨hok.inj, fun i o ho hl => ?_, fun g x hx => (hok.glob g x hx).mono hst', fun b hb => Nat.lt_of_lt_of_le (hok.maskLt b hb) hsize⟩
    have hk := hok.obj i o ho hl
    exact hk.mono hst' rfl (hkeep _ hk.lt)
  · refine Rel.pure (s := s0') hw'.symm ?_ ?_ hrel hfv
    · rintro b (hb | hb)
      · exact absurd hb (hno0' b)
      · rw [hst.mask] at hb
        exact hb
    · rintro b hb
      right
      rw [hst.mask]
      exact hb

theorem normArgs_rel {ρ : Operand → AV} {av : Operand → Value} : ∀ {xs : List Operand} (_ : ∀ x ∈ xs, Rel s (ρ x) (av x)) (ts : List TypeId) (j : Nat) (x : AV) (y : Value),
    (normArgs X.P ρ xs ts)[j]? = some x → (xs.map av)[j]? = some y → Rel s x y
  | [], _, _, j, x, y, hx, _ => by simp [normArgs] at hx
  | z :: xs, hρ, [], j, x, y, hx, hy => by
    cases j with
    | zero => simp [normArgs] at hx hy; subst hx; subst hy; exact hρ z (by simp)
    | succ j => simp [normArgs] at hx hy; exact normArgs_rel (fun x hx => hρ x (by simp [hx])) [] j x y hx (by simpa using hy)
  | z :: xs, hρ, t :: ts, j, x, y, hx, hy => by
    cases j with
    | zero => simp [normArgs] at hx hy; subst hx; subst hy; exact normT_rel (hρ z (by simp))
    | succ j => simp [normArgs] at hx hy; exact normArgs_rel (fun x hx => hρ x (by simp [hx])) ts j x y hx (by simpa using hy)

theorem normArgs_length {P : Program} {ρ : Operand → AV} : ∀ (xs : List Operand) (ts : List TypeId), (normArgs P ρ xs ts).length = xs.length
  | [], _ => rfl
  | x :: xs, [] => by simp [normArgs, normArgs_length xs]
  | x :: xs, t :: ts => by simp [normArgs, normArgs_length xs]

theorem normArgs_free {P : Program} {ρ : Operand → AV} : ∀ {xs : List Operand} {ts : List TypeId}, (∀ x ∈ xs, refFree (ρ x) = true) → ∀ y ∈ normArgs P ρ xs ts, refFree y = true
  | [], _, _, y, hy => by simp [normArgs] at hy
  | x :: xs, [], h, y, hy => by
    simp [normArgs] at hy
    rcases hy with rfl | hy
    · exact h x (by simp)
    · exact normArgs_free (fun z hz => h z (by simp [hz])) y hy
  | x :: xs, t :: ts, h, y, hy => by
    simp [normArgs] at hy
    rcases hy with rfl | hy
    · exact normT_free (h x (by simp))
    · exact normArgs_free (fun z hz => h z (by simp [hz])) y hy

theorem rels_three {fs cs : Array Value} {args : Array Value} {first cap mid : List AV} (h1 : fs.size = first.length) (h2 : cs.size = cap.length) (h3 : args.size = mid.length)
    (hf : ∀ (j : Nat) (x : AV) (y : Value), first[j]? = some x → fs[j]? = some y → Rel s x y) (hc : ∀ (j : Nat) (x : AV) (y : Value), cap[j]? = some x → cs[j]? = some y → Rel s x y)
    (hm : ∀ (j : Nat) (x : AV) (y : Value), mid[j]? = some x → args[j]? = some y → Rel s x y) : Rels s (first ++ mid ++ cap) (fs ++ args ++ cs) := by
  refine ⟨by simp [h1, h2, h3], ?_⟩
  intro j x y hx hy
  rw [List.append_assoc] at hx
  rw [Array.append_assoc] at hy
  by_cases ha : j < first.length
  · rw [List.getElem?_append_left ha] at hx
    rw [Array.getElem?_append_left (by omega)] at hy
    exact hf j x y hx hy
  · rw [List.getElem?_append_right (by omega)] at hx
    rw [Array.getElem?_append_right (by omega), h1] at hy
    by_cases hb : j - first.length < mid.length
    · rw [List.getElem?_append_left hb] at hx
      rw [Array.getElem?_append_left (by omega)] at hy
      exact hm _ x y hx hy
    · rw [List.getElem?_append_right (by omega)] at hx
      rw [Array.getElem?_append_right (by omega), h3] at hy
      exact hc _ x y hx hy

end
end Go.Ab
