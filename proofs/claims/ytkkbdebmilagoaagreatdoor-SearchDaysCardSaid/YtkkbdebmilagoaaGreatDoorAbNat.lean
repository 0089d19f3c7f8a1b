/- An operation's value does not hang on what is done with it. -/
import Derived.Test.YtkkbdebmilagoaaGreatDoorAbRun
set_option linter.unusedSimpArgs false
set_option linter.unusedVariables false
namespace Go.Ab
open Go
section
variable {β γ : Type} (f : β → Option γ)

theorem br_nat (b : Bool) (x y : Option β) : (br b x y).bind f = br b (x.bind f) (y.bind f) := by cases b <;> rfl
theorem asInt_nat (x : AV) (k : IntKind) (c : Int → Option β) : (asInt x k c).bind f = asInt x k fun n => (c n).bind f := by
  unfold asInt; split <;> first | rfl | (split <;> rfl)
theorem asBool_nat (x : AV) (c : Bool → Option β) : (asBool x c).bind f = asBool x fun n => (c n).bind f := by unfold asBool; split <;> rfl
theorem asStr_nat (x : AV) (c : ByteArray → Option β) : (asStr x c).bind f = asStr x fun n => (c n).bind f := by unfold asStr; split <;> rfl
theorem asLst_nat (x : AV) (es : Nat) (c : Bool → List AV → Option β) : (asLst x es c).bind f = asLst x es fun b r => (c b r).bind f := by
  unfold asLst; split <;> first | rfl | (split <;> rfl)
theorem asAgg_nat (x : AV) (n : Nat) (c : (Nat → AV) → Option β) : (asAgg x n c).bind f = asAgg x n fun r => (c r).bind f := by
  unfold asAgg; split <;> first | rfl | (split <;> rfl)
theorem asTup_nat (x : AV) (n : Nat) (c : (Nat → AV) → Option β) : (asTup x n c).bind f = asTup x n fun r => (c r).bind f := by
  unfold asTup; split <;> first | rfl | (split <;> rfl)
theorem asBig_nat (x : AV) (n : Nat) (c : List AV → Option β) : (asBig x n c).bind f = asBig x n fun r => (c r).bind f := by
  unfold asBig; split <;> first | rfl | (rw [br_nat]; rfl)
theorem getRow_nat (rows : List AV) (i : Nat) (c : AV → Option β) : (getRow rows i c).bind f = getRow rows i fun r => (c r).bind f := by unfold getRow; split <;> rfl
theorem callK_nat (K : PureK) (g : FuncId) (as : List AV) (c : AV → Option β) : (callK K g as c).bind f = callK K g as fun r => (c r).bind f := by unfold callK; split <;> rfl
theorem leafK_nat (s : Sh) (x : AV) (c : AV → Option β) : (leafK s x c).bind f = leafK s x fun r => (c r).bind f := by
  unfold leafK; cases s <;> simp only [asInt_nat, asBool_nat, asStr_nat, asLst_nat]
theorem leavesK_nat (g : Nat → AV) : ∀ (ss : List Sh) (i : Nat) (acc : List AV) (c : List AV → Option β), (leavesK ss g i acc c).bind f = leavesK ss g i acc fun r => (c r).bind f
  | [], _, _, _ => rfl
  | s :: ss, i, acc, c => by simp only [leavesK, leafK_nat, leavesK_nat g ss]
theorem shapeK_nat (s : Sh) (x : AV) (c : AV → Option β) : (shapeK s x c).bind f = shapeK s x fun r => (c r).bind f := by
  unfold shapeK; cases s <;> simp only [asAgg_nat, asBig_nat, leavesK_nat, leafK_nat]
theorem shapesTupK_nat (g : Nat → AV) : ∀ (ss : List Sh) (i : Nat) (acc : List AV) (c : List AV → Option β), (shapesTupK ss g i acc c).bind f = shapesTupK ss g i acc fun r => (c r).bind f
  | [], _, _, _ => rfl
  | s :: ss, i, acc, c => by simp only [shapesTupK, shapeK_nat, shapesTupK_nat g ss]
theorem resultK_nat (ss : List Sh) (x : AV) (c : AV → Option β) : (resultK ss x c).bind f = resultK ss x fun r => (c r).bind f := by
  unfold resultK; split <;> simp only [shapeK_nat, asTup_nat, shapesTupK_nat]
theorem bytesK_nat (rows : List AV) (c : List UInt8 → Option β) : (bytesK rows c).bind f = bytesK rows fun r => (c r).bind f := by unfold bytesK; split <;> rfl
theorem subvalK_nat (P : Program) (t : TypeId) (row : AV) (off : Nat) (c : AV → Option β) : (subvalK P t row off c).bind f = subvalK P t row off fun r => (c r).bind f := by
  unfold subvalK; split <;> (try split) <;> first | rfl | (simp only [br_nat]; rfl) | (simp only [leafK_nat, br_nat]; rfl)
theorem objK_nat (h : Heap) (id gen : Nat) (c : Obj → Option β) : (objK h id gen c).bind f = objK h id gen fun r => (c r).bind f := by
  unfold objK; split <;> first | rfl | (simp only [br_nat]; rfl)
theorem iterObjK_nat (h : Heap) (id gen : Nat) (c : Obj → ByteArray → Nat → Option β) : (iterObjK h id gen c).bind f = iterObjK h id gen fun o s p => (c o s p).bind f := by
  unfold iterObjK; split
  · rw [br_nat]
    split <;> rfl
  · rfl
theorem rowK_nat (P : Program) (o : Obj) (r : Nat) (c : AV → Option β) : (rowK P o r c).bind f = rowK P o r fun x => (c x).bind f := by
  unfold rowK; split
  · split <;> rfl
  · simp only [getRow_nat, shapeK_nat]
theorem rowsK_nat (h : Heap) (x : AV) (es : Nat) (c : List AV → Option β) : (rowsK h x es c).bind f = rowsK h x es fun r => (c r).bind f := by
  unfold rowsK; split <;> first | rfl | (split <;> rfl) | (simp only [objK_nat, br_nat]; rfl)
theorem newK_nat (h : Heap) (o : Obj) (x : Nat → AV) (c : AV → Heap → Tag → Option β) : (newK h o x c).bind f = newK h o x fun a b t => (c a b t).bind f := rfl
theorem setK_nat (h : Heap) (id : Nat) (o : Obj) (x : AV) (c : AV → Heap → Tag → Option β) : (setK h id o x c).bind f = setK h id o x fun a b t => (c a b t).bind f := rfl
theorem boundsK_nat (n : Nat) (lo hi : Option Int) (c : Option β) : (boundsK n lo hi c).bind f = boundsK n lo hi (c.bind f) := by
  unfold boundsK; split <;> simp only [br_nat] <;> rfl

theorem ite_nat {p : Prop} [Decidable p] (x : Option β) : (if p then x else none).bind f = if p then x.bind f else none := by split <;> rfl

theorem ifcK_nat (P : Program) (t : TypeId) (x : AV) (c : AV → Option β) : (ifcK P t x c).bind f = ifcK P t x fun r => (c r).bind f := by
  unfold ifcK; split
  · split <;> rfl
  · rfl
theorem binK_nat (P : Program) (op : BinOp) (t : TypeId) (x y : Operand) (a b : AV) (c : AV → Option β) :
    (binK P op t x y a b c).bind f = binK P op t x y a b fun r => (c r).bind f := by
  unfold binK
  split
  · split <;> first | (simp only [br_nat, ite_nat]; rfl) | (split <;> rfl)
  · split <;> first | rfl | (simp only [br_nat]; rfl)
  · split <;> rfl
  · split <;> first | rfl | (split <;> rfl)
  · split <;> first | rfl | (split <;> first | rfl | (split <;> rfl))

theorem builtinK_nat (P : Program) (b : Builtin) (ts : Array TypeId) (xs : List AV) (h : Heap) (c : AV → Heap → Tag → Option β) :
    (builtinK P b ts xs h c).bind f = builtinK P b ts xs h fun a b t => (c a b t).bind f := by
  unfold builtinK
  repeat' first
    | rfl
    | (simp only [objK_nat, br_nat, rowsK_nat, newK_nat, setK_nat, ite_nat, Option.bind_none]; done)
    | split

theorem opK_nat (X : Ctx) (g : FuncId) (o : Oper) (ρ : Operand → AV) (h : Heap) (c : AV → Heap → Tag → Option β) :
    (opK X g o ρ h c).bind f = opK X g o ρ h fun a b t => (c a b t).bind f := by
  unfold opK
  cases o.op <;> dsimp only <;> repeat' first
    | rfl
    | (simp only [objK_nat, br_nat, rowsK_nat, rowK_nat, subvalK_nat, getRow_nat, shapeK_nat, bytesK_nat, boundsK_nat, ifcK_nat, binK_nat, builtinK_nat, newK_nat, setK_nat, ite_nat, Option.bind_none]; done)
    | split
    | (rw [iterObjK_nat]; refine congrArg _ (funext fun _ => funext fun _ => funext fun _ => ?_); simp only [br_nat, setK_nat]; done)
    | (rw [objK_nat]; refine congrArg _ (funext fun _ => ?_))
    | (rw [rowK_nat]; refine congrArg _ (funext fun _ => ?_))

end
end Go.Ab
