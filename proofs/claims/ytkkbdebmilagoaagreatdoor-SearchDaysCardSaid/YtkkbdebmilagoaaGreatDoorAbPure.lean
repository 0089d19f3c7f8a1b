/- Between the kit's contracts and pure calls. -/
import Derived.Test.YtkkbdebmilagoaaGreatDoorAbTell
import Derived.Below
import Derived.Calls
set_option linter.unusedVariables false
set_option linter.unusedSimpArgs false
namespace Go.Ab
open Go Go.RowKit

/-- What is told of memory behind some steps: what lay below B lies as it lay. -/
structure Past (B : Nat) (w w' : World) : Prop where
  os : w'.os = w.os
  output : w'.output = w.output
  size : w.heap.size ≤ w'.heap.size
  block : ∀ k, k < B → w'.heap[k]? = w.heap[k]?
theorem Past.refl (B : Nat) (w : World) : Past B w w := ⟨rfl, rfl, Nat.le_refl _, fun _ _ => rfl⟩
theorem Past.trans {B : Nat} {a b c : World} (h : Past B a b) (k : Past B b c) : Past B a c :=
  ⟨k.os.trans h.os, k.output.trans h.output, Nat.le_trans h.size k.size, fun i hi => (k.block i hi).trans (h.block i hi)⟩
theorem Past.of_below {B : Nat} {a b : World} (h : Below B a b) : Past B a b := ⟨h.os, h.output, h.size, h.block⟩
theorem Past.mono {B B' : Nat} {a b : World} (h : Past B a b) (hB : B' ≤ B) : Past B' a b := ⟨h.os, h.output, h.size, fun k hk => h.block k (by omega)⟩

theorem st_at {X : Ctx} {s : St} (hok : Ok X s) (hH : s.H = []) {W : World} (h : Past s.w.heap.size s.w W) : Step s { s with w := W } ∧ Ok X { s with w := W } := by
  have hst : Step s { s with w := W } :=
    ⟨⟨h.os, h.output⟩, rfl, h.size, fun b hb _ => h.block b hb, fun b _ _ ⟨i, o, ho, _⟩ => by rw [show ({ s with w := W } : St).H = s.H from rfl, hH] at ho; simp at ho,
      fun i o ho => by rw [hH] at ho; simp at ho⟩
  refine ⟨hst, ⟨fun i j oi oj hi => ?_, fun i o ho => ?_, fun g x hx => (hok.glob g x hx).mono hst, fun b hb => Nat.lt_of_lt_of_le (hok.maskLt b hb) h.size⟩⟩
  · rw [show ({ s with w := W } : St).H = s.H from rfl, hH] at hi; simp at hi
  · rw [show ({ s with w := W } : St).H = s.H from rfl, hH] at ho; simp at ho

/-- A pure call, in the kit's words. -/
theorem pure_calls {X : Ctx} {g : FuncId} {fn : Func} {c : Code} {xs : List AV} {v : AV} (h : PureCall X g xs v) (hfn : X.P.funcs[g]? = some fn) (hbody : fn.body = some c) (hname : (fn.name == "runtime.NumGoroutine") = false)
    {s : St} (hok : Ok X s) (hH : s.H = []) {W : World} (hW : Past s.w.heap.size s.w W) {args : Array Value} (hr : Rels { s with w := W } xs args) :
    Calls X.P g args W fun e W' => ∃ cv, e = .returned cv ∧ Past W.heap.size W W' ∧ Past s.w.heap.size s.w W' ∧ Rel { s with w := W' } v cv := by
  have hs := (st_at hok hH hW)
  have hc := h.2 _ hs.2 hH args hr
  have hrun : (callFunc g args).run X.P W = .ok (.enter g args) W := by
    have h1 : fn.name ≠ "runtime.NumGoroutine" := by simpa using hname
    simp [callFunc, hfn, h1, hbody]
  rw [show ({ s with w := W } : St).w = W from rfl, hrun] at hc
  refine Calls.mono hc ?_
  rintro e w' ⟨v, rfl, s', rfl, hH', hst, hok', hrel⟩
  have hp : Past W.heap.size W s'.w := ⟨hst.io.1, hst.io.2, hst.size, fun k hk => hst.keep k hk fun ⟨i, o, ho, _⟩ => by
    rw [show ({ s with w := W } : St).H = s.H from rfl, hH] at ho; simp at ho⟩
  refine ⟨v, rfl, hp, hW.trans (hp.mono hW.size), ?_⟩
  have hmask : s'.mask = s.mask := hst.mask
  have hst2 : Step s' { s with w := s'.w } := by
    refine ⟨⟨rfl, rfl⟩, hmask.symm, Nat.le_refl _, fun _ _ _ => rfl, fun b _ _ ⟨i, o, ho, _⟩ => ?_, fun i o ho => ?_⟩
    · rw [show ({ s with w := s'.w } : St).H = s.H from rfl, hH] at ho; simp at ho
    · rw [hH'] at ho; simp at ho
  exact hrel.mono hst2


/-- A contract of the kit's is a pure call. -/
theorem pure_of_calls {X : Ctx} {g : FuncId} {fn : Func} {c : Code} {xs : List AV} {v : AV} (hfn : X.P.funcs[g]? = some fn) (hbody : fn.body = some c) (hname : (fn.name == "runtime.NumGoroutine") = false) (hfree : refFree v = true)
    (h : ∀ s : St, Ok X s → s.H = [] → ∀ cs : Array Value, Rels s xs cs → Calls X.P g cs s.w fun e w' => ∃ cv, e = .returned cv ∧ Past s.w.heap.size s.w w' ∧ Rel { s with w := w' } v cv) : PureCall X g xs v := by
  refine ⟨hfree, fun s hok hH cs hr => ?_⟩
  have hrun : (callFunc g cs).run X.P s.w = .ok (.enter g cs) s.w := by
    have h1 : fn.name ≠ "runtime.NumGoroutine" := by simpa using hname
    simp [callFunc, hfn, h1, hbody]
  rw [hrun]
  refine Calls.mono (h s hok hH cs hr) ?_
  rintro e W' ⟨cv, rfl, hp, hrel⟩
  have h2 := st_at hok hH hp
  exact ⟨cv, rfl, { s with w := W' }, rfl, hH, h2.1, h2.2, hrel⟩
theorem rels_v1 {s : St} {x : Value} {cs : Array Value} (h : Rels s [.v x] cs) : cs = #[x] := by
  obtain ⟨l⟩ := cs
  have h1 := h.1
  match l, h1 with
  | [y], _ =>
    have := (h.2 0 _ _ rfl rfl).v_inv.1
    subst this
    rfl
theorem rels_v2 {s : St} {x y : Value} {cs : Array Value} (h : Rels s [.v x, .v y] cs) : cs = #[x, y] := by
  obtain ⟨l⟩ := cs
  have h1 := h.1
  match l, h1 with
  | [a, b], _ =>
    have e0 := (h.2 0 _ _ rfl rfl).v_inv.1
    have e1 := (h.2 1 _ _ rfl rfl).v_inv.1
    subst e0 e1
    rfl
theorem rels_v3 {s : St} {x y z : Value} {cs : Array Value} (h : Rels s [.v x, .v y, .v z] cs) : cs = #[x, y, z] := by
  obtain ⟨l⟩ := cs
  have h1 := h.1
  match l, h1 with
  | [a, b, c], _ =>
    have e0 := (h.2 0 _ _ rfl rfl).v_inv.1
    have e1 := (h.2 1 _ _ rfl rfl).v_inv.1
    have e2 := (h.2 2 _ _ rfl rfl).v_inv.1
    subst e0 e1 e2
    rfl
/-- A tuple's value out of its parts. -/
theorem rel_tup_two {s : St} {a b : AV} {x y : Value} (h : Rel s a x) (h2 : Rel s b y) : Rel s (.tup [a, b]) (.tuple #[x, y]) :=
  .tup _ _ rfl fun j u v hu hv => by
    match j with
    | 0 => simp at hu hv; subst hu; subst hv; exact h
    | 1 => simp at hu hv; subst hu; subst hv; exact h2
    | j + 2 => simp at hu
/-- A listed variable's one cell. -/
theorem Ok.cell {X : Ctx} {s : St} (hok : Ok X s) {g : Nat} {x : AV} (hg : X.G g = some x) (hx : x.cells = [x]) : ∃ v, s.w.cell? ⟨g, 0, none⟩ = some v ∧ Rel s x v := by
  have := (hok.glob g x hg).rel
  cases this with
  | pl row off b base vals hsz hpriv hfree hcell hc hr =>
    have hc0 := hc 0 (by rw [hx]; simp)
    refine ⟨vals 0, hc0, hr 0 x (by rw [hx]; rfl)⟩
end Go.Ab
