/- Functions without a body. -/
import Derived.Test.YtkkbdebmilagoaaGreatDoorAbMemo
import Derived.Laws.Externs
set_option linter.unusedVariables false
namespace Go.Ab
open Go

theorem extern_pure {X : Ctx} {f : FuncId} {fn : Func} {e : Array Value → Sem Value} (hf : X.P.funcs[f]? = some fn) (hname : (fn.name == "runtime.NumGoroutine") = false)
    (hb : fn.body.isNone = true) (hn : Extern.findNext fn = none) (he : Extern.find fn = some e) {as : List AV} {x : Value} (hx : isScalar x = true)
    (h : ∀ (s : St) (cs : Array Value), Rels s as cs → (e cs).run X.P s.w = .ok x s.w) : PureCall X f as (.v x) := by
  refine ⟨rfl, fun s hok hH cs hr => ?_⟩
  rw [run_callFunc_extern hf hname hb hn he, h s cs hr]
  exact ⟨s, rfl, hH, .refl s, hok, .v x hx⟩

theorem rels_two {s : St} {x y : Value} {cs : Array Value} (h : Rels s [.v x, .v y] cs) : cs = #[x, y] := by
  obtain ⟨hl, hr⟩ := h
  have hl : cs.size = 2 := hl
  have h0 : cs[0]? = some cs[0] := Array.getElem?_eq_getElem (by omega)
  have h1 : cs[1]? = some cs[1] := Array.getElem?_eq_getElem (by omega)
  have r0 := hr 0 (.v x) _ rfl h0
  have r1 := hr 1 (.v y) _ rfl h1
  generalize hc0 : cs[0] = a at r0
  generalize hc1 : cs[1] = b at r1
  cases r0
  cases r1
  apply Array.ext
  · simp [hl]
  · intro i hi _
    match i with
    | 0 => simpa using hc0
    | 1 => simpa using hc1
    | i + 2 => omega

def xIndexByteString : List AV → Option AV
  | [.v (.string s), .v (.int .u8 c)] => some (.v (.int .i64 (firstIdx s c.toNat.toUInt8)))
  | _ => none
def xCountString : List AV → Option AV
  | [.v (.string s), .v (.int .u8 c)] => some (.v (.int .i64 (s.foldl (fun n x => if x == c.toNat.toUInt8 then n + 1 else n) (0 : Nat))))
  | _ => none

theorem xIndexByteString_ok {X : Ctx} {f : FuncId} {fn : Func} (hf : X.P.funcs[f]? = some fn) (hname : (fn.name == "runtime.NumGoroutine") = false)
    (hb : fn.body.isNone = true) (hn : Extern.findNext fn = none) (he : Extern.find fn = some Extern.BytealgIndexByte.indexByte) (as : List AV) (v : AV) (h : xIndexByteString as = some v) : PureCall X f as v := by
  unfold xIndexByteString at h
  split at h
  · rename_i s c
    cases h
    exact extern_pure hf hname hb hn he rfl fun st cs hr => by rw [rels_two hr]; exact run_indexByte_string s c st.w
  · cases h

theorem xCountString_ok {X : Ctx} {f : FuncId} {fn : Func} (hf : X.P.funcs[f]? = some fn) (hname : (fn.name == "runtime.NumGoroutine") = false)
    (hb : fn.body.isNone = true) (hn : Extern.findNext fn = none) (he : Extern.find fn = some Extern.BytealgCount.count) (as : List AV) (v : AV) (h : xCountString as = some v) : PureCall X f as v := by
  unfold xCountString at h
  split at h
  · rename_i s c
    cases h
    exact extern_pure hf hname hb hn he rfl fun st cs hr => by rw [rels_two hr]; rfl
  · cases h
end Go.Ab
namespace Go.Ab
open Go
/-- The check of a program's functions, once. -/
def soundB (P : Program) (l : List FuncId) : Bool :=
  l.all fun g => match P.funcs[g]? with
    | none => true
    | some fn => !(fn.name == "runtime.NumGoroutine") && match fn.body with
      | none => true
      | some c => codeGood c

theorem sound_of {X : Ctx} (l : List FuncId) (hm : X.P.follows .mixedOrders = true) (h : soundB X.P l = true) (hl : ∀ g, X.ok g = true → l.any (fun x => Nat.beq x g) = true) (hlp : ∀ f k, X.lp f k = none := by intros; rfl) : Sound X := by
  refine ⟨hm, fun g fn hg hfn => ?_, fun g fn c _ _ _ b _ F hF => by rw [hlp] at hF; cases hF⟩
  obtain ⟨x, hx, hxg⟩ := List.any_eq_true.1 (hl g hg)
  obtain rfl := Nat.eq_of_beq_eq_true hxg
  have := List.all_eq_true.1 h x hx
  rw [hfn] at this
  simp only [Bool.and_eq_true, Bool.not_eq_true'] at this
  refine ⟨this.1, fun c hc => ?_⟩
  have h2 := this.2
  rw [hc] at h2
  exact h2
end Go.Ab
