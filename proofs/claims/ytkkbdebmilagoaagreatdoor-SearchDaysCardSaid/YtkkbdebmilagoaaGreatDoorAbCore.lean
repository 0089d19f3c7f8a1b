/- The abstract machine: values, heap, and the evaluator in continuation style. -/
import Derived.Calls
import Derived.Orders
namespace Go.Ab
open Go

/-- Abstract values. -/
inductive AV where
  | v (x : Value)
  | lst (es : Nat) (nil : Bool) (rows : List AV)
  | own (id gen row : Nat) (len : Option Nat)
  | ptr (id gen row off : Nat)
  | pl (row : AV) (off : Nat)
  | fn (f : Fn) (first cap : List AV)
  | iface (t : TypeId) (x : AV)
  | agg (cells : List AV)
  | tup (xs : List AV)
  | junk
  | dead
  deriving Inhabited

def AV.cells : AV → List AV
  | .agg cs => cs
  | x => [x]

structure Obj where
  rows : List AV
  gen : Nat
  ver : Nat
  live : Bool
  box : Bool
  ty : TypeId
  es : Nat
  /-- a string that is ranged over, and how far -/
  it : Option (ByteArray × Nat) := none
  deriving Inhabited

abbrev Env := List AV
abbrev Heap := List Obj

/-- How code ends. -/
inductive Ex where
  | normal
  | exit (id : Nat)
  | goto (l : Nat)
  | ret
  deriving Inhabited

def isScalar : Value → Bool
  | .bool _ | .int _ _ | .float _ _ | .complex _ _ _ | .string _ | .nilFunc | .nilIface | .pointer none | .map none | .chan none => true
  | _ => false

mutual
/-- No reference into the abstract heap. -/
def refFree : AV → Bool
  | .v _ => true
  | .lst _ _ _ => true
  | .own .. => false
  | .ptr .. => false
  | .pl _ _ => true
  | .fn _ a b => refFrees a && refFrees b
  | .iface _ x => refFree x
  | .agg cs => refFrees cs
  | .tup xs => refFrees xs
  | .junk => true
  | .dead => true
def refFrees : List AV → Bool
  | [] => true
  | x :: xs => refFree x && refFrees xs
end

mutual
/-- All references are to objects below `n`. -/
def refsBelow (n : Nat) : AV → Bool
  | .v _ => true
  | .lst _ _ _ => true
  | .own i _ _ _ => Nat.blt i n
  | .ptr i _ _ _ => Nat.blt i n
  | .pl _ _ => true
  | .fn _ a b => refsBelows n a && refsBelows n b
  | .iface _ x => refsBelow n x
  | .agg cs => refsBelows n cs
  | .tup xs => refsBelows n xs
  | .junk => true
  | .dead => true
def refsBelows (n : Nat) : List AV → Bool
  | [] => true
  | x :: xs => refsBelow n x && refsBelows n xs
end

mutual
/-- Rewrite the references to one object: `f gen row len` for a slice, `q gen` for a pointer's generation (none: dead). -/
def remap (i : Nat) (f : Nat → Nat → Option Nat → AV) (q : Nat → Nat → Nat → AV) : AV → AV
  | .own j g r l => if Nat.beq j i then f g r l else .own j g r l
  | .ptr j g r o => if Nat.beq j i then q g r o else .ptr j g r o
  | .fn h a b => .fn h (remaps i f q a) (remaps i f q b)
  | .iface t x => .iface t (remap i f q x)
  | .agg cs => .agg (remaps i f q cs)
  | .tup xs => .tup (remaps i f q xs)
  | x => x
def remaps (i : Nat) (f : Nat → Nat → Option Nat → AV) (q : Nat → Nat → Nat → AV) : List AV → List AV
  | [] => []
  | x :: xs => remap i f q x :: remaps i f q xs
end

/-- Shapes of types: what is known of a value's constructors. -/
inductive Sh where
  | int (k : IntKind)
  | bool
  | str
  | lst (es : Nat)
  | agg (cells : List Sh)
  /-- so many cells, not looked at -/
  | big (n : Nat)
  | other
  deriving Inhabited

def Sh.cells : Sh → List Sh
  | .agg cs => cs
  | .big n => List.replicate n .other
  | s => [s]

def shOf (P : Program) : Nat → TypeId → Sh
  | 0, _ => .other
  | d + 1, t =>
    match P.underlying t with
    | some (.int k) => .int k
    | some .bool => .bool
    | some .string => .str
    | some (.slice e) => .lst (P.cellsOf e)
    | some (.struct fs) => .agg (fs.toList.flatMap fun f => (shOf P d f.type).cells)
    | some (.array n e) => match Nat.ble n 32 with
      | true => .agg ((List.replicate n (shOf P d e).cells).flatten)
      | false => .big (n * (shOf P d e).cells.length)
    | _ => .other

/-- Zero values, by shape. -/
def zeroLeaf : Sh → Value → Option AV
  | .lst es, .slice none 0 0 => some (.lst es true [])
  | _, x => match isScalar x with | true => some (.v x) | false => none
def zeroLeaves : List Sh → List Value → Option (List AV)
  | [], [] => some []
  | s :: ss, x :: xs => match zeroLeaf s x with
    | some y => match zeroLeaves ss xs with
      | some ys => some (y :: ys)
      | none => none
    | none => none
  | _, _ => none
def zeroSh (s : Sh) : Value → Option AV
  | .agg cs => match zeroLeaves s.cells cs.toList with
    | some ys => some (.agg ys)
    | none => none
  | x => zeroLeaf s x

section comb
variable {β : Type}

def br (b : Bool) (x y : Option β) : Option β := match b with | true => x | false => y

def asInt (x : AV) (k : IntKind) (c : Int → Option β) : Option β :=
  match x with
  | .v (.int k' n) => if k' = k then c n else none
  | _ => none
def asBool (x : AV) (c : Bool → Option β) : Option β :=
  match x with
  | .v (.bool b) => c b
  | _ => none
def asStr (x : AV) (c : ByteArray → Option β) : Option β :=
  match x with
  | .v (.string s) => c s
  | _ => none
def asLst (x : AV) (es : Nat) (c : Bool → List AV → Option β) : Option β :=
  match x with
  | .lst es' b rows => match Nat.beq es' es with
    | true => c b rows
    | false => none
  | _ => none
def asAgg (x : AV) (n : Nat) (c : (Nat → AV) → Option β) : Option β :=
  match x with
  | .agg cs => if cs.length = n then c (fun i => cs.getD i .dead) else none
  | _ => none
def asTup (x : AV) (n : Nat) (c : (Nat → AV) → Option β) : Option β :=
  match x with
  | .tup cs => if cs.length = n then c (fun i => cs.getD i .dead) else none
  | _ => none
/-- So many cells. -/
def asBig (x : AV) (n : Nat) (c : List AV → Option β) : Option β :=
  match x with
  | .agg cs => br (Nat.beq cs.length n) (c cs) none
  | _ => none
/-- A row of a list. -/
def getRow (rows : List AV) (i : Nat) (c : AV → Option β) : Option β :=
  match rows[i]? with
  | some r => c r
  | none => none
def optK {α : Type} (o : Option α) (c : α → Option β) : Option β := match o with
  | some x => c x
  | none => none
/-- A pure call. -/
def callK (K : FuncId → List AV → Option AV) (f : FuncId) (args : List AV) (c : AV → Option β) : Option β :=
  match K f args with
  | some v => c v
  | none => none

/-- Normal form of a cell by its shape: only leaf shapes. -/
def leafK (s : Sh) (x : AV) (c : AV → Option β) : Option β :=
  match s with
  | .int k => asInt x k fun n => c (.v (.int k n))
  | .bool => asBool x fun b => c (.v (.bool b))
  | .str => asStr x fun b => c (.v (.string b))
  | .lst es => asLst x es fun b rows => c (.lst es b rows)
  | .agg _ => c x
  | .big _ => c x
  | .other => c x

def leavesK (ss : List Sh) (f : Nat → AV) (i : Nat) (acc : List AV) (c : List AV → Option β) : Option β :=
  match ss with
  | [] => c acc.reverse
  | s :: ss => leafK s (f i) fun x => leavesK ss f (i + 1) (x :: acc) c

/-- A value that comes from without (a call's result, a row), in its shape's constructors. -/
def shapeK (s : Sh) (x : AV) (c : AV → Option β) : Option β :=
  match s with
  | .agg ss => asAgg x ss.length fun f => leavesK ss f 0 [] fun cs => c (.agg cs)
  | .big n => asBig x n fun cs => c (.agg cs)
  | s => leafK s x c

def shapesTupK (ss : List Sh) (f : Nat → AV) (i : Nat) (acc : List AV) (c : List AV → Option β) : Option β :=
  match ss with
  | [] => c acc.reverse
  | s :: ss => shapeK s (f i) fun x => shapesTupK ss f (i + 1) (x :: acc) c

/-- A call's result. -/
def resultK (ss : List Sh) (x : AV) (c : AV → Option β) : Option β :=
  match ss with
  | [s] => shapeK s x c
  | ss => asTup x ss.length fun f => shapesTupK ss f 0 [] fun xs => c (.tup xs)

end comb
end Go.Ab
