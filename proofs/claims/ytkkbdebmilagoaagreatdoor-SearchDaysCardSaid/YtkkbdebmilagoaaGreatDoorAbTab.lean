/- A table of functions whose answers are told. -/
import Derived.Test.YtkkbdebmilagoaaGreatDoorAbExt
set_option linter.unusedVariables false
namespace Go.Ab
open Go

abbrev Tab := List (FuncId × (List AV → Option AV))

def tabK : Tab → PureK
  | [], _, _ => none
  | e :: es, g, as => match Nat.beq e.1 g with
    | true => e.2 as
    | false => tabK es g as

def TabOk (X : Ctx) (t : Tab) : Prop := ∀ e ∈ t, ∀ as v, e.2 as = some v → PureCall X e.1 as v

theorem tab_ok {X : Ctx} : ∀ (t : Tab), TabOk X t → KOk X (tabK t)
  | [], _, g, as, v, h => by cases h
  | e :: es, ht, g, as, v, h => by
    simp only [tabK] at h
    split at h
    · rename_i hb
      have := ht e List.mem_cons_self as v h
      rwa [Nat.eq_of_beq_eq_true hb] at this
    · exact tab_ok es (fun e he => ht e (List.mem_cons_of_mem _ he)) g as v h

theorem tab_nil {X : Ctx} : TabOk X [] := fun e he => by cases he
theorem tab_cons {X : Ctx} {g : FuncId} {f : List AV → Option AV} {t : Tab} (h : ∀ as v, f as = some v → PureCall X g as v) (ht : TabOk X t) : TabOk X ((g, f) :: t) := fun e he => by
  rcases List.mem_cons.1 he with rfl | he
  · exact h
  · exact ht e he

/-- Functions of integers. -/
def f1 (f : Int → AV) : List AV → Option AV
  | [.v (.int .i64 a)] => some (f a)
  | _ => none
def f2 (f : Int → Int → AV) : List AV → Option AV
  | [.v (.int .i64 a), .v (.int .i64 b)] => some (f a b)
  | _ => none
def f3 (f : Int → Int → Int → AV) : List AV → Option AV
  | [.v (.int .i64 a), .v (.int .i64 b), .v (.int .i64 c)] => some (f a b c)
  | _ => none
theorem f1_ok {X : Ctx} {g : FuncId} {f : Int → AV} (h : ∀ a, PureCall X g [.v (.int .i64 a)] (f a)) (as : List AV) (v : AV) (hv : f1 f as = some v) : PureCall X g as v := by
  unfold f1 at hv
  split at hv
  · cases hv; exact h _
  · cases hv
theorem f2_ok {X : Ctx} {g : FuncId} {f : Int → Int → AV} (h : ∀ a b, PureCall X g [.v (.int .i64 a), .v (.int .i64 b)] (f a b)) (as : List AV) (v : AV) (hv : f2 f as = some v) : PureCall X g as v := by
  unfold f2 at hv
  split at hv
  · cases hv; exact h _ _
  · cases hv
theorem f3_ok {X : Ctx} {g : FuncId} {f : Int → Int → Int → AV} (h : ∀ a b c, PureCall X g [.v (.int .i64 a), .v (.int .i64 b), .v (.int .i64 c)] (f a b c)) (as : List AV) (v : AV) (hv : f3 f as = some v) : PureCall X g as v := by
  unfold f3 at hv
  split at hv
  · cases hv; exact h _ _ _
  · cases hv
/-- With a guard. -/
def g2 (p : Int → Int → Bool) (f : Int → Int → AV) : List AV → Option AV
  | [.v (.int .i64 a), .v (.int .i64 b)] => br (p a b) (some (f a b)) none
  | _ => none
def g3 (p : Int → Int → Int → Bool) (f : Int → Int → Int → AV) : List AV → Option AV
  | [.v (.int .i64 a), .v (.int .i64 b), .v (.int .i64 c)] => br (p a b c) (some (f a b c)) none
  | _ => none
theorem g2_ok {X : Ctx} {g : FuncId} {p : Int → Int → Bool} {f : Int → Int → AV} (h : ∀ a b, p a b = true → PureCall X g [.v (.int .i64 a), .v (.int .i64 b)] (f a b)) (as : List AV) (v : AV) (hv : g2 p f as = some v) : PureCall X g as v := by
  unfold g2 at hv
  split at hv
  · obtain ⟨h1, h2⟩ := br_yes hv
    cases h2; exact h _ _ h1
  · cases hv
theorem g3_ok {X : Ctx} {g : FuncId} {p : Int → Int → Int → Bool} {f : Int → Int → Int → AV} (h : ∀ a b c, p a b c = true → PureCall X g [.v (.int .i64 a), .v (.int .i64 b), .v (.int .i64 c)] (f a b c)) (as : List AV) (v : AV) (hv : g3 p f as = some v) : PureCall X g as v := by
  unfold g3 at hv
  split at hv
  · obtain ⟨h1, h2⟩ := br_yes hv
    cases h2; exact h _ _ _ h1
  · cases hv
end Go.Ab
