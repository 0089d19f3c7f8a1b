/- The abstract machine's evaluator, in continuation style. -/
import Derived.Test.YtkkbdebmilagoaaGreatDoorAbCore
namespace Go.Ab
open Go

/-- What is told of a loop: its ways out, in continuation style. -/
structure LoopF where
  run : ∀ {β : Type}, List AV → List Obj → (Ex → List AV → List Obj → Option β) → Option β

structure Ctx where
  P : Program
  G : Nat → Option AV
  /-- a literal slice made at this temporary stays own -/
  own : FuncId → Tmp → Bool
  /-- what is struck at a loop's round end -/
  clr : FuncId → Nat → List Tmp
  /-- what is frozen ahead of a region -/
  fz : FuncId → Nat → List Tmp
  /-- a function that is walked into at its call -/
  inl : FuncId → Bool
  /-- the functions whose code may be walked -/
  ok : FuncId → Bool
  /-- a function to which own memory is given for good: it is frozen at the call -/
  kil : FuncId → Bool := fun _ => false
  /-- a region that only asks: the temporary with its answer -/
  mg : FuncId → Nat → Option Tmp := fun _ _ => none
  /-- loops that are told -/
  lp : FuncId → Nat → Option LoopF := fun _ _ => none

inductive Tag where
  | pure
  | rd (id : Nat)
  | al
  | wr (id : Nat)
  | any
  deriving Inhabited

def scal {α : Type} (P : Program) : Sem α → Option α
  | .pure a => some a
  | .program k => scal P (k P)
  | .mark _ k => scal P k
  | _ => none

/-- Is a type's value an aggregate (none: no such type)? -/
def kindT (P : Program) (t : TypeId) : Option Bool :=
  match P.underlying t with
  | some (.struct _) => some true
  | some (.array _ _) => some true
  | some _ => some false
  | none => none

def elemT (P : Program) (t : TypeId) : Option TypeId :=
  match P.underlying t with
  | some (.slice e) => some e
  | _ => none

def fieldOf (P : Program) (t : TypeId) (i : Nat) : Option Field :=
  match P.underlying t with
  | some (.struct fs) => fs[i]?
  | _ => none

/-- How deep types are looked into for their shapes. -/
def shDepth : Nat := 6

def zeroOf (P : Program) (t : TypeId) : Option AV :=
  match P.info? t with
  | some i => match i.zero with
    | some z => zeroSh (shOf P shDepth t) z
    | none => none
  | none => none

/-- A nil constant takes its type's element size. -/
def normT (P : Program) (t : TypeId) (x : AV) : AV :=
  match elemT P t with
  | some e => match x with
    | .lst 0 true [] => .lst (P.cellsOf e) true []
    | x => x
  | none => x

/-- Is this the value of one cell? -/
def isCell : AV → Bool
  | .agg _ | .tup _ | .dead => false
  | _ => true

/-- Has a value as many cells as a type? -/
def fits (P : Program) (t : TypeId) (x : AV) : Bool :=
  match kindT P t with
  | some true => match x with
    | .agg cs => Nat.beq cs.length (P.cellsOf t)
    | _ => false
  | some false => isCell x && Nat.beq 1 (P.cellsOf t)
  | none => false

def maxBytes : Nat := 70368744177664
def lenOk (n bytes : Nat) : Bool := Nat.ble (n * bytes) maxBytes
def maxStr : Nat := 9223372036854775807

def bt (s : ByteArray) (i : Nat) : Int := ((s.data.toList[i]?.getD 0).toNat : Int)
def bytesRows (s : ByteArray) : List AV := s.data.toList.map fun b => .v (.int .u8 b.toNat)
def strEq (x y : ByteArray) : Bool := x.data.toList == y.data.toList
def strLt (x y : ByteArray) : Bool := Op.bytesLess x.data.toList y.data.toList

def rowByte : AV → Option UInt8
  | .v (.int .u8 n) => some (UInt8.ofNat n.toNat)
  | _ => none
def rowsBytes (rows : List AV) : Option (List UInt8) := rows.mapM rowByte

def subRows (rows : List AV) (row : Nat) (len : Option Nat) : List AV :=
  match len with
  | none => match row with | 0 => rows | r => rows.drop r
  | some n => match row with | 0 => rows.take n | r => (rows.drop r).take n

section
variable {β : Type}

def bytesK (rows : List AV) (c : List UInt8 → Option β) : Option β :=
  match rowsBytes rows with
  | some l => c l
  | none => none

/-- Only a scalar's look is asked. -/
def scalSh : Sh → Sh
  | .lst _ => .other
  | .agg _ => .other
  | .big _ => .other
  | s => s

def subvalK (P : Program) (t : TypeId) (row : AV) (off : Nat) (c : AV → Option β) : Option β :=
  match kindT P t with
  | some true => br (Nat.ble (off + P.cellsOf t) row.cells.length) (c (.agg ((row.cells.drop off).take (P.cellsOf t)))) none
  | some false => match row.cells[off]? with
    | some x => leafK (scalSh (shOf P shDepth t)) x fun x => br (isCell x) (c x) none
    | none => none
  | none => none

/-- An object that a reference of some generation leads to. -/
def objK (h : Heap) (id gen : Nat) (c : Obj → Option β) : Option β :=
  match h[id]? with
  | some o => br (o.live && Nat.beq o.gen gen && o.it.isNone) (c o) none
  | none => none

/-- A range over a string. -/
def iterObjK (h : Heap) (id gen : Nat) (c : Obj → ByteArray → Nat → Option β) : Option β :=
  match h[id]? with
  | some o => br (o.live && Nat.beq o.gen gen) (match o.it with | some (s, p) => c o s p | none => none) none
  | none => none

def rowK (P : Program) (o : Obj) (r : Nat) (c : AV → Option β) : Option β :=
  match o.box with
  | true => match o.rows[r]? with
    | some x => c x
    | none => none
  | false => getRow o.rows r fun x => shapeK (shOf P shDepth o.ty) x c

/-- A slice's rows. -/
def rowsK (h : Heap) (x : AV) (es : Nat) (c : List AV → Option β) : Option β :=
  match x with
  | .lst es' _ rows => match Nat.beq es' es with
    | true => c rows
    | false => none
  | .own id gen row len => objK h id gen fun o => br (!o.box && Nat.beq o.es es) (c (subRows o.rows row len)) none
  | .v (.string s) => match Nat.beq es 1 with
    | true => c (bytesRows s)
    | false => none
  | _ => none

def rdTag (x : AV) : Tag :=
  match x with
  | .own id _ _ _ => .rd id
  | .ptr id _ _ _ => .rd id
  | _ => .pure

def intV (n : Int) : AV := .v (.int .i64 n)

def splice (cs : List AV) (off : Nat) (xs : List AV) : List AV := cs.take off ++ xs ++ cs.drop (off + xs.length)

def fillCells (P : Program) (place : Nat → Option (Nat × TypeId)) (cells : List AV) : List (Nat × AV) → Option (List AV)
  | [] => some cells
  | (i, x) :: rest =>
    match place i with
    | none => none
    | some (off, t) => match fits P t (normT P t x) && Nat.ble (off + P.cellsOf t) cells.length with
      | true => fillCells P place (splice cells off (normT P t x).cells) rest
      | false => none

def fillRows (P : Program) (e : TypeId) (rows : List AV) : List (Nat × AV) → Option (List AV)
  | [] => some rows
  | (i, x) :: rest => match fits P e (normT P e x) && refFree x && Nat.blt i rows.length with
    | true => fillRows P e (rows.set i (normT P e x)) rest
    | false => none

def newK (h : Heap) (o : Obj) (x : Nat → AV) (c : AV → Heap → Tag → Option β) : Option β :=
  c (x h.length) (h ++ [o]) .al

def setK (h : Heap) (id : Nat) (o : Obj) (x : AV) (c : AV → Heap → Tag → Option β) : Option β :=
  c x (h.set id { o with ver := o.ver }) (.wr id)

def optInt (ρ : Operand → AV) : Option Operand → Option (Option Int)
  | none => some none
  | some x => match ρ x with
    | .v (.int _ n) => some (some n)
    | _ => none

/-- The bounds of a cut: `lo`, `hi` within `n`. -/
def boundsK (n : Nat) (lo hi : Option Int) (c : Option β) : Option β :=
  match lo, hi with
  | none, none => c
  | none, some h => br (decide (0 ≤ h)) (br (decide (h ≤ (n : Int))) c none) none
  | some l, none => br (decide (0 ≤ l)) (br (decide (l ≤ (n : Int))) c none) none
  | some l, some h => br (decide (0 ≤ l)) (br (decide (l ≤ h)) (br (decide (h ≤ (n : Int))) c none) none) none

def cutRows (rows : List AV) (lo hi : Option Int) : List AV :=
  match lo, hi with
  | none, none => rows
  | none, some h => rows.take h.toNat
  | some l, none => rows.drop l.toNat
  | some l, some h => (rows.take h.toNat).drop l.toNat

/-- Two texts joined, told by their bytes (so that the kernel sees them cheaply). -/
def catStr (s u : ByteArray) : ByteArray := ⟨(s.data.toList ++ u.data.toList).toArray⟩

def cutStr (s : ByteArray) (lo hi : Option Int) : ByteArray :=
  ⟨(match lo, hi with
    | none, none => s.data.toList
    | none, some h => s.data.toList.take h.toNat
    | some l, none => s.data.toList.drop l.toNat
    | some l, some h => (s.data.toList.take h.toNat).drop l.toNat).toArray⟩

def lenOfOwn (o : Obj) (row : Nat) (len : Option Nat) : Nat :=
  match len with
  | some n => n
  | none => match row with | 0 => o.rows.length | r => o.rows.length - r

/-- Equality of two plain values of a type. -/
def eqLeaf (P : Program) (t : TypeId) (x y : AV) : Option Bool :=
  match P.underlying t, x, y with
  | some (.int _), .v (.int k a), .v (.int k' b) => if k = k' then some (a == b) else none
  | some .string, .v (.string a), .v (.string b) => some (strEq a b)
  | some .bool, .v (.bool a), .v (.bool b) => some (a == b)
  | _, _, _ => none
def eqFields (P : Program) (xs ys : List AV) : List Field → Option Bool
  | [] => some true
  | f :: fs =>
    match (f.name != "_"), kindT P f.type, xs[f.offset]?, ys[f.offset]? with
    | true, some false, some x, some y => match eqLeaf P f.type x y with
      | some b => match fs with
        | [] => some b
        | fs => match eqFields P xs ys fs with
          | some c => some (b && c)
          | none => none
      | none => none
    | _, _, _, _ => none
def eqStruct (P : Program) (t : TypeId) (xs ys : List AV) : Option Bool :=
  match P.underlying t with
  | some (.struct fs) => match P.stoodInHeld t || P.eqGuardType P.depth t with
    | false => eqFields P xs ys fs.toList
    | true => none
  | _ => none

/-- Equality with nil. -/
def nilEq (P : Program) (t : TypeId) (x y : AV) : Option Bool :=
  match P.underlying t, y with
  | some (.slice _), .lst _ true [] => match x with
    | .lst _ b _ => some b
    | .own .. => some false
    | _ => none
  | some (.func _ _ _), .v .nilFunc => match x with
    | .fn .. => some false
    | .v .nilFunc => some true
    | _ => none
  | some (.pointer _), .v (.pointer none) => match x with
    | .ptr .. => some false
    | .pl .. => some false
    | .v (.pointer none) => some true
    | _ => none
  | some (.interface _), .v .nilIface => match x with
    | .iface .. => some false
    | _ => none
  | _, _ => none

def bothNil (P : Program) (t : TypeId) (x y : Operand) (a b : AV) : Option Bool :=
  match P.underlying t, a, b with
  | some (.interface _), .v .nilIface, .v .nilIface => match (Region.isConst x || Region.isConst y) with
    | true => some true
    | false => none
  | _, _, _ => none

/-- Two interface values that hold numbers. -/
def eqIface (P : Program) (t : TypeId) (a b : AV) : Option Bool :=
  match P.underlying t, a, b with
  | some (.interface _), .iface tx (.v (.int k n)), .iface ty (.v (.int k' m)) => match Nat.beq tx ty with
    | false => some false
    | true => match P.info? tx with
      | some i => match i.comparable, P.underlying tx with
        | true, some (.int _) => if k = k' then some (n == m) else none
        | _, _ => none
      | none => none
  | _, _, _ => none

def eqAny (P : Program) (t : TypeId) (x y : Operand) (a b : AV) : Option Bool :=
  match bothNil P t x y a b with
  | some r => some r
  | none => match nilEq P t a b with
    | some r => some r
    | none => match nilEq P t b a with
      | some r => some r
      | none => eqIface P t a b

/-- An interface value's look. -/
def ifcK (P : Program) (t : TypeId) (x : AV) (c : AV → Option β) : Option β :=
  match P.underlying t with
  | some (.interface _) => match x with
    | .v .nilIface => c (.v .nilIface)
    | .iface u y => c (.iface u y)
    | _ => none
  | _ => c x

def binK (P : Program) (op : BinOp) (t : TypeId) (x y : Operand) (a b : AV) (c : AV → Option β) : Option β :=
  match a, b with
  | .v (.int k n), .v (.int k' m) =>
    match op with
    | .quo => br (m == 0) none (if k = k' then c (.v (.int k (k.wrap (n.tdiv m)))) else none)
    | .rem => br (m == 0) none (if k = k' then c (.v (.int k (n.tmod m))) else none)
    | .shl => br (decide (m < 0)) none (c (.v (.int k (k.wrap (n * 2 ^ (min m.toNat k.bits))))))
    | .shr => br (decide (m < 0)) none (c (.v (.int k (n.fdiv (2 ^ (min m.toNat k.bits))))))
    | .add => if k = k' then c (.v (.int k (k.wrap (n + m)))) else none
    | .sub => if k = k' then c (.v (.int k (k.wrap (n - m)))) else none
    | .mul => if k = k' then c (.v (.int k (k.wrap (n * m)))) else none
    | .eql => if k = k' then c (.v (.bool (n == m))) else none
    | .neq => if k = k' then c (.v (.bool (n != m))) else none
    | .lss => if k = k' then c (.v (.bool (decide (n < m)))) else none
    | .leq => if k = k' then c (.v (.bool (decide (n ≤ m)))) else none
    | .gtr => if k = k' then c (.v (.bool (decide (n > m)))) else none
    | .geq => if k = k' then c (.v (.bool (decide (n ≥ m)))) else none
    | _ => match scal P (binOp op t (.int k n) (.int k' m)) with
      | some (.int k r) => c (.v (.int k r))
      | _ => none
  | .v (.string s), .v (.string u) =>
    match op with
    | .add => br (Nat.ble (s.size + u.size) maxStr) (c (.v (.string (catStr s u)))) none
    | .eql => c (.v (.bool (strEq s u)))
    | .neq => c (.v (.bool (!strEq s u)))
    | .lss => c (.v (.bool (strLt s u)))
    | .leq => c (.v (.bool (strLt s u || strEq s u)))
    | .gtr => c (.v (.bool (!(strLt s u || strEq s u))))
    | .geq => c (.v (.bool (!strLt s u)))
    | _ => none
  | .v (.bool p), .v (.bool q) =>
    match P.underlying t, op with
    | some .bool, .eql => c (.v (.bool (p == q)))
    | some .bool, .neq => c (.v (.bool (!(p == q))))
    | _, _ => none
  | .agg xs, .agg ys =>
    match op with
    | .eql => match eqStruct P t xs ys with
      | some b => c (.v (.bool b))
      | none => none
    | .neq => match eqStruct P t xs ys with
      | some b => c (.v (.bool (!b)))
      | none => none
    | _ => none
  | a, b =>
    match op with
    | .eql => match eqAny P t x y a b with
      | some r => c (.v (.bool r))
      | none => none
    | .neq => match eqAny P t x y a b with
      | some r => c (.v (.bool (!r)))
      | none => none
    | _ => none

/-- An element type with a zero value of its size, that is some. -/
def zeroFits (P : Program) (e : TypeId) : Bool :=
  match zeroOf P e with
  | some z => fits P e z && !Nat.beq (P.cellsOf e) 0
  | none => false

/-- Is what is appended of a type that goes with the slice's? -/
def appendOk (P : Program) (t1 t2 : TypeId) (x : AV) : Bool :=
  match x with
  | .v _ => match P.underlying t2 with
    | some .string => true
    | _ => false
  | _ => Nat.beq t1 t2

/-- A type of whole numbers: `append(s, make(T, n)...)` is an append of a number. -/
def isIntT (P : Program) (t : TypeId) : Bool := match P.underlying t with
  | some (.int _) => true
  | _ => false

def builtinK (P : Program) (b : Builtin) (argTypes : Array TypeId) (xs : List AV) (h : Heap) (c : AV → Heap → Tag → Option β) : Option β :=
  match b, xs with
  | .len, [.v (.string s)] => match (argTypes[0]?).bind P.underlying with
    | some .string => c (intV s.size) h .pure
    | _ => none
  | .len, [.lst _ _ rows] => match (argTypes[0]?).bind P.underlying with
    | some (.slice _) => c (intV rows.length) h .pure
    | _ => none
  | .len, [.own id gen row len] => match (argTypes[0]?).bind P.underlying with
    | some (.slice _) => objK h id gen fun o => c (intV (lenOfOwn o row len)) h (.rd id)
    | _ => none
  | .min, [.v (.int k n), .v (.int k' m)] => if k = k' then c (.v (.int k (if m < n then m else n))) h .pure else none
  | .max, [.v (.int k n), .v (.int k' m)] => if k = k' then c (.v (.int k (if n < m then m else n))) h .pure else none
  | .clear, [s] => match (argTypes[0]?).bind P.underlying with
    | some (.slice e) => match zeroOf P e with
      | some z => match s with
        | .own id gen row len => objK h id gen fun o => br (fits P e z && !Nat.beq (P.cellsOf e) 0 && !o.box && Nat.beq o.ty e && Nat.beq o.es (P.cellsOf e))
            (setK h id { o with rows := o.rows.take row ++ List.replicate (lenOfOwn o row len) z ++ o.rows.drop (row + lenOfOwn o row len) } (.tup []) c) none
        | _ => none
      | none => none
    | _ => none
  | .cap, [.lst _ true []] => match (argTypes[0]?).bind P.underlying with
    | some (.slice _) => c (intV 0) h .pure
    | _ => none
  | .append, [s, x] =>
    match argTypes.toList with
    | [t1, t2] => match elemT P t1 with
     | none => none
     | some e => match isIntT P t2 with
      | true => match s, x with
        | .lst _ true [], .v (.int .i64 n) => match zeroOf P e with
          | some z => br (fits P e z && !Nat.beq (P.cellsOf e) 0) (br (decide (0 < n)) (br (lenOk n.toNat (P.bytesOf e) && lenOk n.toNat 1)
              (newK h { rows := List.replicate n.toNat z, gen := 0, ver := 0, live := true, box := false, ty := e, es := P.cellsOf e } (fun i => .own i 0 0 none) c) none) none) none
          | none => none
        | _, _ => none
      | false =>
      match zeroFits P e && appendOk P t1 t2 x with
      | false => none
      | true => match s with
        | .lst _ true [] => rowsK h x (P.cellsOf e) fun rs =>
          br rs.isEmpty (c (.lst (P.cellsOf e) true []) h (rdTag x))
            (br (lenOk rs.length (P.bytesOf e) && lenOk rs.length 1) (newK h { rows := rs, gen := 0, ver := 0, live := true, box := false, ty := e, es := P.cellsOf e } (fun i => .own i 0 0 none) c) none)
        | .own id gen 0 len => rowsK h x (P.cellsOf e) fun rs => objK h id gen fun o =>
          br (!o.box && Nat.beq o.ty e && Nat.beq o.es (P.cellsOf e) && (match len with | none => true | some n => Nat.ble n o.rows.length))
            (br (lenOk ((subRows o.rows 0 len).length + rs.length) (P.bytesOf e) && lenOk ((subRows o.rows 0 len).length + rs.length) 1)
              (setK h id { o with rows := subRows o.rows 0 len ++ rs, gen := gen + 1 } (.own id (gen + 1) 0 none) c) none) none
        | _ => none
    | _ => none
  | _, _ => none

/-- One operation that is no call of a function. -/
def opK (X : Ctx) (f : FuncId) (o : Oper) (ρ : Operand → AV) (h : Heap) (c : AV → Heap → Tag → Option β) : Option β :=
  match o.op with
  | .move x | .assign x => c (normT X.P o.type (ρ x)) h .pure
  | .pick b x y => match ρ b with
    | .v (.bool t) => br t (c (normT X.P o.type (ρ x)) h .pure) (c (normT X.P o.type (ρ y)) h .pure)
    | _ => none
  | .alloc t => match zeroOf X.P t with
    | some z => match fits X.P t z with
      | true => newK h { rows := [z], gen := 0, ver := 0, live := true, box := true, ty := t, es := X.P.cellsOf t } (fun i => .ptr i 0 0 0) c
      | false => none
    | none => none
  | .box t x => match fits X.P t (normT X.P t (ρ x)) with
    | true => newK h { rows := [normT X.P t (ρ x)], gen := 0, ver := 0, live := true, box := true, ty := t, es := X.P.cellsOf t } (fun i => .ptr i 0 0 0) c
    | false => none
  | .build t parts => match zeroOf X.P t with
    | some (.agg z) =>
      match X.P.underlying t with
      | some (.struct fs) => match fs.toList.all fun f => (X.P.info? f.type).isSome with
       | false => none
       | true => match fillCells X.P (fun i => (fs[i]?).map fun fd => (fd.offset, fd.type)) z (parts.toList.map fun (i, x) => (i, ρ x)) with
        | some cs => c (.agg cs) h .pure
        | none => none
      | some (.array _ e) => match Nat.beq (X.P.cellsOf e) 0 with
       | true => none
       | false => match fillCells X.P (fun i => some (i * X.P.cellsOf e, e)) z (parts.toList.map fun (i, x) => (i, ρ x)) with
        | some cs => c (.agg cs) h .pure
        | none => none
      | _ => none
    | _ => none
  | .buildSlice t n parts => match elemT X.P t with
    | some e => match zeroOf X.P e with
      | some z => match (match fits X.P e z && !Nat.beq (X.P.cellsOf e) 0 && Nat.ble (n * X.P.cellsOf e) 16777216 with
          | true => fillRows X.P e (List.replicate n z) (parts.toList.map fun (i, x) => (i, ρ x))
          | false => none) with
        | some rows => match o.dst with
          | some d => match X.own f d with
            | true => newK h { rows, gen := 0, ver := 0, live := true, box := false, ty := e, es := X.P.cellsOf e } (fun i => .own i 0 0 none) c
            | false => c (.lst (X.P.cellsOf e) false rows) h .pure
          | none => none
        | none => none
      | none => none
    | none => none
  | .load t a => match ρ a with
    | .ptr id gen r off => objK h id gen fun ob => rowK X.P ob r fun row => subvalK X.P t row off fun x => c x h (.rd id)
    | .pl row off => subvalK X.P t row off fun x => c x h .pure
    | _ => none
  | .store t a v => match ρ a with
    | .ptr id gen r off => objK h id gen fun ob =>
      match fits X.P t (normT X.P t (ρ v)) && (ob.box || refFree (ρ v)) with
      | true => match Nat.beq t ob.ty && Nat.beq ob.es (X.P.cellsOf t) && Nat.beq off 0 with
        | true => setK h id { ob with rows := ob.rows.set r (normT X.P t (ρ v)) } (.tup []) c
        | false => rowK X.P ob r fun row => match row with
          | .agg cs => match Nat.ble (off + X.P.cellsOf t) cs.length with
            | true => setK h id { ob with rows := ob.rows.set r (.agg (splice cs off (normT X.P t (ρ v)).cells)) } (.tup []) c
            | false => none
          | _ => none
      | false => none
    | _ => none
  | .nilCheck x => match ρ x with
    | .ptr i g r o => c (.ptr i g r o) h .pure
    | .pl r o => c (.pl r o) h .pure
    | .fn (.func g) a b => c (.fn (.func g) a b) h .pure
    | _ => none
  | .binOp op t x y _ => ifcK X.P t (ρ x) fun a => ifcK X.P t (ρ y) fun b => binK X.P op t x y a b fun r => c r h .pure
  | .unOp op _ x => match op, ρ x with
    | .not, .v (.bool b) => c (.v (.bool !b)) h .pure
    | .neg, .v (.int k n) => c (.v (.int k (k.wrap (0 - n)))) h .pure
    | op, .v (.int k n) => match scal X.P (Op.unary op (.int k n)) with
      | some (.int k r) => c (.v (.int k r)) h .pure
      | _ => none
    | _, _ => none
  | .convert src dst x => match ρ x with
    | .v (.int _ n) => match X.P.underlying src, X.P.underlying dst with
      | some (.int _), some (.int k) => c (.v (.int k (k.wrap n))) h .pure
      | _, _ => none
    | .v (.string s) => match X.P.underlying src, X.P.underlying dst with
      | some .string, some .string => c (.v (.string s)) h .pure
      | some .string, some (.slice e) => match X.P.underlying e with
        | some (.int .u8) => match o.dst with
          | some d => match X.own f d with
            | true => newK h { rows := bytesRows s, gen := 0, ver := 0, live := true, box := false, ty := e, es := 1 } (fun i => .own i 0 0 none) c
            | false => c (.lst 1 false (bytesRows s)) h .pure
          | none => none
        | _ => none
      | _, _ => none
    | x => match X.P.underlying src, X.P.underlying dst with
      | some (.slice e), some .string => match X.P.underlying e with
        | some (.int .u8) => rowsK h x 1 fun rows => bytesK rows fun l => c (.v (.string ⟨l.toArray⟩)) h (rdTag x)
        | _ => none
      | some (.slice _), some (.slice e) => match Nat.beq src dst, X.P.underlying e with
        | true, some (.int .u8) => match x with
          | .own id gen 0 none => objK h id gen fun ob => br (!ob.box) (match (match o.dst with | some d => X.own f d | none => true) with
            | true => setK h id { ob with gen := gen + 1 } (.own id (gen + 1) 0 none) c
            | false => setK h id { ob with live := false } (.lst ob.es false ob.rows) c) none
          | _ => none
        | _, _ => none
      | _, _ => none
  | .makeInterface t x => match X.P.underlying t with
    | some (.interface _) => none
    | some _ => c (.iface t (normT X.P t (ρ x))) h .pure
    | none => none
  | .makeFunc fn first cap => c (.fn fn (first.toList.map ρ) (cap.toList.map ρ)) h .pure
  | .makeSlice t l m => match elemT X.P t, ρ l, ρ m with
    | some e, .v (.int .i64 n), .v (.int .i64 n') => match zeroOf X.P e with
      | some z => br (fits X.P e z && !Nat.beq (X.P.cellsOf e) 0) (br (decide (0 ≤ n)) (br (decide (n ≤ n')) (br (lenOk n'.toNat (X.P.bytesOf e) && lenOk n'.toNat 1)
          (newK h { rows := List.replicate n.toNat z, gen := 0, ver := 0, live := true, box := false, ty := e, es := X.P.cellsOf e } (fun i => .own i 0 0 none) c) none) none) none) none
      | none => none
    | _, _, _ => none
  | .slice t x lo hi mx => match mx, optInt ρ lo, optInt ρ hi with
    | none, some lo, some hi => match ρ x with
      | .v (.string s) => match X.P.underlying t with
        | some .string => boundsK s.size lo hi (c (.v (.string (cutStr s lo hi))) h .pure)
        | _ => none
      | .lst es b rows => match elemT X.P t with
        | some e => match Nat.beq es (X.P.cellsOf e) && !Nat.beq es 0 with
          | true => boundsK rows.length lo hi (c (.lst es b (cutRows rows lo hi)) h .pure)
          | false => none
        | none => none
      | .own id gen row len => objK h id gen fun ob => br (match elemT X.P t with | some e => Nat.beq ob.ty e && Nat.beq ob.es (X.P.cellsOf e) && !Nat.beq ob.es 0 && !ob.box | none => false) (boundsK (lenOfOwn ob row len) lo hi
          (c (.own id gen (match lo with | none => row | some l => row + l.toNat)
            (match hi with
              | none => match len with
                | none => none
                | some n => match lo with | none => some n | some l => some (n - l.toNat)
              | some k => match lo with | none => some k.toNat | some l => some (k.toNat - l.toNat))) h (.rd id))) none
      | _ => none
    | _, _, _ => none
  | .fieldAddr t x i => match fieldOf X.P t i with
    | some fd => match Nat.beq (X.P.cellsOf fd.type) 0, ρ x with
      | false, .ptr id g r off => c (.ptr id g r (off + fd.offset)) h .pure
      | false, .pl row off => c (.pl row (off + fd.offset)) h .pure
      | _, _ => none
    | none => none
  | .field t x i => match fieldOf X.P t i, ρ x with
    | some fd, .agg cs => subvalK X.P fd.type (.agg cs) fd.offset fun y => c y h .pure
    | _, _ => none
  | .indexAddr t x i => match ρ i with
    | .v (.int _ n) => match ρ x with
      | .lst es _ rows => match elemT X.P t with
        | some e => match Nat.beq es (X.P.cellsOf e) && !Nat.beq es 0 with
          | true => br (decide (0 ≤ n)) (br (decide (n < (rows.length : Int)))
            (getRow rows n.toNat fun r => shapeK (shOf X.P shDepth e) r fun r => c (.pl r 0) h .pure) none) none
          | false => none
        | none => none
      | .own id gen row len => match elemT X.P t with
        | some e => objK h id gen fun ob => br (Nat.beq e ob.ty && !ob.box && Nat.beq ob.es (X.P.cellsOf e) && !Nat.beq ob.es 0)
            (br (decide (0 ≤ n)) (br (decide (n < (lenOfOwn ob row len : Int))) (c (.ptr id gen (row + n.toNat) 0) h (.rd id)) none) none) none
        | none => none
      | .ptr id g r off => match X.P.underlying t with
        | some (.array len e) => br (!Nat.beq (X.P.cellsOf e) 0) (br (decide (0 ≤ n)) (br (decide (n < (len : Int))) (c (.ptr id g r (off + n.toNat * X.P.cellsOf e)) h .pure) none) none) none
        | _ => none
      | .pl row off => match X.P.underlying t with
        | some (.array len e) => br (!Nat.beq (X.P.cellsOf e) 0) (br (decide (0 ≤ n)) (br (decide (n < (len : Int))) (c (.pl row (off + n.toNat * X.P.cellsOf e)) h .pure) none) none) none
        | _ => none
      | _ => none
    | _ => none
  | .index t x i => match ρ i with
    | .v (.int _ n) => match ρ x with
      | .v (.string s) => match X.P.underlying t with
        | some .string => br (decide (0 ≤ n)) (br (decide (n < (s.size : Int))) (c (.v (.int .u8 (bt s n.toNat))) h .pure) none) none
        | _ => none
      | .agg cs => match X.P.underlying t with
        | some (.array len e) => br (!Nat.beq (X.P.cellsOf e) 0) (br (decide (0 ≤ n)) (br (decide (n < (len : Int))) (subvalK X.P e (.agg cs) (n.toNat * X.P.cellsOf e) fun y => c y h .pure) none) none) none
        | _ => none
      | _ => none
    | _ => none
  | .typeAssert x _ asserted ok => match X.P.underlying asserted with
    | some (.interface _) => none
    | some _ => match ρ x with
      | .iface t y => br (Nat.beq t asserted)
          (match ok with | true => c (.tup [y, .v (.bool true)]) h .pure | false => c y h .pure)
          (match ok with
            | true => match zeroOf X.P asserted with
              | some z => c (.tup [z, .v (.bool false)]) h .pure
              | none => none
            | false => none)
      | .v .nilIface => match ok with
        | true => match zeroOf X.P asserted with
          | some z => c (.tup [z, .v (.bool false)]) h .pure
          | none => none
        | false => none
      | _ => none
    | none => none
  | .range t x => match X.P.underlying t, ρ x with
    | some .string, .v (.string s) => newK h { rows := [.junk], gen := 0, ver := 0, live := true, box := true, ty := t, es := 1, it := some (s, 0) } (fun i => .ptr i 0 0 0) c
    | _, _ => none
  | .next it isString => match isString, ρ it with
    | true, .ptr id gen 0 0 => iterObjK h id gen fun ob s p =>
      br (Nat.blt p s.size)
        (setK h id { ob with it := some (s, p + (Utf8.decode s p).2) } (.tup [.v (.bool true), intV p, .v (.int .i32 (Utf8.decode s p).1)]) c)
        (c (.tup [.v (.bool false)]) h (.rd id))
    | _, _ => none
  | .extract t i => match ρ t with
    | .tup xs => match xs[i]? with
      | some x => c x h .pure
      | none => none
    | _ => none
  | .call { callee := .builtin b, args, argTypes } => builtinK X.P b argTypes (args.toList.map ρ) h c
  | _ => none

end
end Go.Ab
