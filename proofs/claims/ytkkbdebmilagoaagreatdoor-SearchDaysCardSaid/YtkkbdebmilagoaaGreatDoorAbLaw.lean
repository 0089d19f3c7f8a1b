/- From the abstract machine to a law's row. -/
import Derived.Test.YtkkbdebmilagoaaGreatDoorAbBody
import Derived.Below
import Derived.OpenShut
set_option linter.unusedSimpArgs false
set_option linter.unusedVariables false
namespace Go.Ab
open Go

section
variable {X : Ctx}

/-- The state of a call: nothing is one's own. -/
def St.init (w : World) : St := { w := w, H := [], loc := fun _ => 0, mask := fun _ => False }

theorem St.init_priv (w : World) (b : Nat) : ¬ (St.init w).Priv b := by
  rintro (⟨i, o, ho, _⟩ | h)
  · simp [St.init] at ho
  · exact h

theorem init_ok {w : World} (hg : ∀ g x, X.G g = some x → GlobOk (St.init w) g x) : Ok X (St.init w) :=
  ⟨fun i j oi oj hi => by simp [St.init] at hi, fun i o ho => by simp [St.init] at ho, hg, fun b h => h.elim⟩

/-- A law that answers true. -/
theorem law_calls {f : FuncId} {fn : Func} {c : Code} {as : List AV} {w : World} {args : Array Value} (h : PureCall X f as (.v (.bool true))) (hfn : X.P.funcs[f]? = some fn) (hbody : fn.body = some c)
    (hname : (fn.name == "runtime.NumGoroutine") = false) (hg : ∀ g x, X.G g = some x → GlobOk (St.init w) g x) (hr : Rels (St.init w) as args) :
    Calls X.P f args w fun e w' => e = .returned (.bool true) ∧ w'.os = w.os ∧ w'.output = w.output ∧ w.heap.size ≤ w'.heap.size ∧ ∀ k, k < w.heap.size → w'.heap[k]? = w.heap[k]? := by
  have hc := h.2 (St.init w) (init_ok hg) rfl args hr
  have hrun : (callFunc f args).run X.P w = .ok (.enter f args) w := by
    have h1 : fn.name ≠ "runtime.NumGoroutine" := by simpa using hname
    simp [callFunc, hfn, h1, hbody]
  rw [show (St.init w).w = w from rfl, hrun] at hc
  refine Calls.mono hc ?_
  rintro e w' ⟨v, rfl, s', rfl, hH, hst, hok, hrel⟩
  cases hrel
  refine ⟨rfl, hst.io.1, hst.io.2, hst.size, fun k hk => hst.keep k hk fun ⟨i, o, ho, _⟩ => by simp [St.init] at ho⟩

/-- A scalar that is read as data. -/
def avS {H : Type} : DataW H → AV
  | .lit (.int k n) => .v (.int k n)
  | .lit (.bool b) => .v (.bool b)
  | .lit (.string l) => .v (.string ⟨l.toArray⟩)
  | _ => .dead

def scalarT (P : Program) (t : TypeId) : Bool :=
  match P.underlying t with
  | some (.int _) => true
  | some .bool => true
  | some .string => true
  | _ => false

theorem trod_scalar {H : Type} {enc : TypeId × Value → H} {P : Program} {w : World} {base : Nat} {spare : Nat → Bool} {held : Bool} {fuel : Nat} {t : TypeId} {cs : List Value} {x : DataW H × List MemPlace}
    (hs : scalarT P t = true) (h : DataW.trod enc P w base spare held fuel t cs = some x) (s : St) : ∃ v, cs = [v] ∧ Rel s (avS x.1) v := by
  unfold scalarT at hs
  split at hs
  · rename_i k ht
    obtain ⟨n, rfl, rfl, _⟩ := DataW.trod_int ht h
    exact ⟨_, rfl, .v _ rfl⟩
  · rename_i ht
    obtain ⟨b, rfl, rfl⟩ := DataW.trod_bool ht h
    exact ⟨_, rfl, .v _ rfl⟩
  · rename_i ht
    obtain ⟨b, rfl, rfl, _⟩ := DataW.trod_string ht h
    refine ⟨_, rfl, ?_⟩
    simp only [avS]
    exact .v _ rfl
  · cases hs

theorem avS_cell {H : Type} {enc : TypeId × Value → H} {P : Program} {w : World} {base : Nat} {spare : Nat → Bool} {held : Bool} {fuel : Nat} {t : TypeId} {cs : List Value} {x : DataW H × List MemPlace}
    (hs : scalarT P t = true) (h : DataW.trod enc P w base spare held fuel t cs = some x) : isCell (avS x.1) = true ∧ refFree (avS x.1) = true := by
  unfold scalarT at hs
  split at hs
  · rename_i k ht
    obtain ⟨n, rfl, rfl, _⟩ := DataW.trod_int ht h
    exact ⟨rfl, rfl⟩
  · rename_i ht
    obtain ⟨b, rfl, rfl⟩ := DataW.trod_bool ht h
    exact ⟨rfl, rfl⟩
  · rename_i ht
    obtain ⟨b, rfl, rfl, _⟩ := DataW.trod_string ht h
    exact ⟨rfl, rfl⟩
  · cases hs

/-- An array of scalars that is read as data. -/
theorem trod_scalars {H : Type} {enc : TypeId × Value → H} {P : Program} {w : World} {base : Nat} {spare : Nat → Bool} {held : Bool} {fuel : Nat} {t e : TypeId} {n : Nat} {cs : List Value} {x : DataW H × List MemPlace}
    (ht : P.underlying t = some (.array n e)) (he : scalarT P e = true) (hc : P.cellsOf e = 1) (hct : P.cellsOf t = n) (h : DataW.trod enc P w base spare held fuel t cs = some x) (s : St) :
    ∃ ds : List (DataW H), x.1 = .agg ds ∧ ds.length = n ∧ cs.length = n ∧ (∀ d ∈ ds, isCell (avS d) = true ∧ refFree (avS d) = true) ∧ ∀ (j : Nat) (y : AV) (v : Value), (ds.map avS)[j]? = some y → cs[j]? = some v → Rel s y v := by
  obtain ⟨xs, m, rfl, rfl, hl, hxl, hx⟩ := DataW.trod_array ht h
  rw [hc] at hx
  simp only [Nat.mul_one] at hx
  have hlen : cs.length = n := hl.trans hct
  refine ⟨xs.map (·.1), rfl, by simp [hxl], hlen, ?_, ?_⟩
  · intro d hd
    obtain ⟨y, hy, rfl⟩ := List.mem_map.1 hd
    obtain ⟨i, hi⟩ := List.getElem?_of_mem hy
    have hlt := (List.getElem?_eq_some_iff.1 hi).1
    have := hx i (by omega)
    rw [hi] at this
    exact avS_cell he this
  · intro j y v hy hv
    simp only [List.map_map, List.getElem?_map, Option.map_eq_some_iff] at hy
    obtain ⟨z, hz, rfl⟩ := hy
    have hlt := (List.getElem?_eq_some_iff.1 hz).1
    have := hx j (by omega)
    rw [hz] at this
    obtain ⟨u, hu, hrel⟩ := trod_scalar he this s
    have hvu : v = u := by
      have h1 : (List.take 1 (List.drop j cs))[0]? = some v := by
        rw [List.getElem?_take]; simp [hv]
      rw [hu] at h1
      simpa using h1.symm
    rw [hvu]
    exact hrel
end
end Go.Ab
