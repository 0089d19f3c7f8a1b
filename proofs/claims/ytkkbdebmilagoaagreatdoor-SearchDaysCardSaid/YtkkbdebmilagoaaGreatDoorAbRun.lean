/- The abstract machine: regions, code, functions. -/
import Derived.Test.YtkkbdebmilagoaaGreatDoorAbEval
namespace Go.Ab
open Go

mutual
/-- The objects that a value refers to. -/
def idsOf : AV → List Nat
  | .own i _ _ _ => [i]
  | .ptr i _ _ _ => [i]
  | .fn _ a b => idsOfs a ++ idsOfs b
  | .iface _ x => idsOf x
  | .agg cs => idsOfs cs
  | .tup xs => idsOfs xs
  | _ => []
def idsOfs : List AV → List Nat
  | [] => []
  | x :: xs => idsOf x ++ idsOfs xs
end

def remapObj (i : Nat) (f : Nat → Nat → Option Nat → AV) (q : Nat → Nat → Nat → AV) (o : Obj) : Obj :=
  match o.box with
  | true => { o with rows := remaps i f q o.rows }
  | false => o

/-- Rewrite one object's references in an environment and in the boxes. -/
def remapAll (i : Nat) (f : Nat → Nat → Option Nat → AV) (q : Nat → Nat → Nat → AV) (e : Env) (h : Heap) : Env × Heap :=
  (remaps i f q e, h.map (remapObj i f q))

def setObj (h : Heap) (i : Nat) (f : Obj → Obj) : Heap :=
  match h, i with
  | [], _ => []
  | o :: h, 0 => f o :: h
  | o :: h, i + 1 => o :: setObj h i f

/-- Give an object's generation another number. -/
def regen1 (i t v : Nat) (e : Env) (h : Heap) : Env × Heap :=
  match h[i]? with
  | none => (e, h)
  | some o =>
    let r := remapAll i (fun g r l => match Nat.beq g o.gen with | true => .own i t r l | false => .junk)
      (fun g r k => match Nat.beq g o.gen with | true => .ptr i t r k | false => .junk) e h
    (r.1, setObj r.2 i fun o => { o with gen := t, ver := v })

def regen : List (Nat × Nat × Nat) → Env → Heap → Env × Heap
  | [], e, h => (e, h)
  | (i, t, v) :: rest, e, h => let r := regen1 i t v e h; regen rest r.1 r.2

/-- Make an object immutable: its references become plain values. -/
def freezeOne (i : Nat) (e : Env) (h : Heap) : Env × Heap :=
  match h[i]? with
  | none => (e, h)
  | some o =>
    match o.live && o.it.isNone && (!o.box || refFrees o.rows) with
    | true =>
      let r := remapAll i
        (fun g r l => match Nat.beq g o.gen && !o.box with | true => .lst o.es false (subRows o.rows r l) | false => .junk)
        (fun g r k => match Nat.beq g o.gen && o.box with
          | true => match o.rows[r]? with | some x => .pl x k | none => .junk
          | false => .junk) e h
      (r.1, setObj r.2 i fun o => { o with live := false })
    | false => (e, h)

def freezeId : Nat → Nat → Env → Heap → Env × Heap
  | 0, _, e, h => (e, h)
  | d + 1, i, e, h =>
    match h[i]? with
    | none => (e, h)
    | some o =>
      match o.box with
      | true =>
        let r := (idsOfs o.rows).foldl (fun s j => freezeId d j s.1 s.2) (e, h)
        freezeOne i r.1 r.2
      | false => freezeOne i e h

def freezeIds (l : List Nat) (e : Env) (h : Heap) : Env × Heap :=
  l.foldl (fun s j => freezeId 4 j s.1 s.2) (e, h)

/-- No box below `n` refers to `n` or above. -/
def heapBelow (n : Nat) (h : Heap) : Bool := h.all fun o => match o.box with | true => refsBelows n o.rows | false => true

/-- Let go of what nobody refers to, from `n` on; else from the next few numbers on. -/
def dropD : Nat → Nat → Env → Heap → Heap
  | 0, _, _, h => h
  | d + 1, n, e, h => match Nat.ble h.length n with
    | true => h
    | false => match refsBelows n e && heapBelow n (h.take n) with
      | true => h.take n
      | false => dropD d (n + 1) e h
def dropK (n : Nat) (e : Env) (h : Heap) : Heap := dropD 4 n e h

def clearEnv : List Tmp → Env → Env
  | [], e => e
  | t :: ts, e => clearEnv ts (e.set t .dead)

def opVal (X : Ctx) (e : Env) : Operand → AV
  | .tmp t => e.getD t .dead
  | .const v => match v with
    | .slice none 0 0 => .lst 0 true []
    | v => match isScalar v with | true => .v v | false => .dead
  | .global g => match X.G g with | some x => .pl x 0 | none => .dead
  | .func f => .fn (.func f) [] []

def putT (e : Env) (d : Option Tmp) (x : AV) : Env :=
  match d with
  | some d => e.set d x
  | none => e

/-- What a region that draws did, operation by operation. -/
structure Ent where
  idx : Nat
  len : Nat
  tag : Tag
  o : Oper
  e : Env
  x : AV
  h1 : Heap

/-- For each operation the bits of those that must come ahead of it. -/
def aheadOf (bs : List Nat) (o : Oper) : Nat :=
  o.after.toList.foldl (fun b e => match Region.binds .any e with
    | true => b ||| (1 <<< e.on) ||| bs.getD e.on 0
    | false => b) 0
def aheads : List Oper → List Nat → List Nat
  | [], bs => bs
  | o :: os, bs => aheads os (bs ++ [aheadOf bs o])

def ordered (b : List Nat) (i j : Nat) : Bool := (b.getD j 0).testBit i || (b.getD i 0).testBit j

def writes : Tag → Bool
  | .al => true
  | .wr _ => true
  | .any => true
  | _ => false

def drawOk (ops : Array Oper) (tr : List Ent) : Bool :=
  let b := aheads ops.toList []
  tr.all fun x => match writes x.tag with
    | true => tr.all fun y => Nat.beq x.idx y.idx || ordered b x.idx y.idx || match y.tag with
      | .pure => true
      | .rd id => match x.tag with
        | .al => Nat.blt id x.len
        | .wr j => !Nat.beq id j
        | _ => false
      | _ => false
    | false => true

section
variable {β : Type}

abbrev PureK := FuncId → List AV → Option AV

def normArgs (P : Program) (ρ : Operand → AV) : List Operand → List TypeId → List AV
  | [], _ => []
  | x :: xs, [] => ρ x :: normArgs P ρ xs []
  | x :: xs, t :: ts => normT P t (ρ x) :: normArgs P ρ xs ts

/-- One operation, calls too. -/
def stepK (X : Ctx) (K : PureK) (inl : FuncId → List AV → Heap → (AV → Heap → Option β) → Option β) (f : FuncId) (o : Oper) (ρ : Operand → AV) (h : Heap)
    (c : AV → Heap → Tag → Option β) : Option β :=
  match o.op with
  | .call { callee := .value fo, args, argTypes } => match ρ fo with
    | .fn (.func g) first cap =>
      match !X.inl g && refFrees (first ++ args.toList.map ρ ++ cap) with
      | true => match X.P.funcs[g]? with
        | some fn => callK K g (first ++ normArgs X.P ρ args.toList argTypes.toList ++ cap) fun v =>
            resultK (fn.resultTypes.toList.map (shOf X.P shDepth)) v fun v => br (refFree v) (c v h .pure) none
        | none => none
      | false => inl g (first ++ normArgs X.P ρ args.toList argTypes.toList ++ cap) h fun v h' => c v h' .any
    | _ => none
  | _ => opK X f o ρ h c

def isGuard (ops : List Oper) (i : Nat) : Bool :=
  ops.any fun o => match o.guard with | some (j, _) => Nat.beq j i | none => false

/-- A guard's value is told apart at once. -/
def splitK (g : Bool) (x : AV) (c : AV → Option β) : Option β :=
  match g with
  | true => match x with
    | .v (.bool b) => br b (c (.v (.bool true))) (c (.v (.bool false)))
    | x => c x
  | false => c x

def wantedK (ops : Array Oper) (o : Oper) (e : Env) (yes no : Option β) : Option β :=
  match o.guard with
  | none => yes
  | some (j, want) => match (ops[j]?).bind (·.dst) with
    | none => no
    | some t => match e.getD t .dead with
      | .v (.bool b) => br (b == want) yes no
      | .tup [] => no
      | _ => none

/-- A region's operations from number `i` on. -/
def opsK (X : Ctx) (K : PureK) (inl : FuncId → List AV → Heap → (AV → Heap → Option β) → Option β) (f : FuncId) (ops : Array Oper) :
    List Oper → Nat → Env → Heap → List Ent → (Env → Heap → List Ent → Option β) → Option β
  | [], _, e, h, tr, k => k e h tr
  | o :: rest, i, e, h, tr, k =>
    wantedK ops o e
      (stepK X K inl f o (opVal X e) h fun x h' t => splitK (isGuard rest i) x fun x =>
        opsK X K inl f ops rest (i + 1) (putT e o.dst x) h' ({ idx := i, len := h.length, tag := t, o := o, e := e, x := x, h1 := h' } :: tr) k)
      (opsK X K inl f ops rest (i + 1) (putT e o.dst (.tup [])) h tr k)

def quietTag : Tag → Bool
  | .pure => true
  | .rd _ => true
  | _ => false

/-- Two plain values that are one. -/
def sameV : Value → Value → Bool
  | .int k n, .int k' m => match decide (k = k') with
    | true => n == m
    | false => false
  | .string s, .string t => strEq s t
  | .bool a, .bool b => a == b
  | _, _ => false
def sameAV : AV → AV → Bool
  | .v a, .v b => sameV a b
  | _, _ => false
def sepB (x : Ent) (id : Nat) : Bool := match x.tag with
  | .al => Nat.blt id x.len
  | .wr j => !Nat.beq id j
  | _ => false
/-- As drawOk, but what reads may clash. -/
def drawOk2 (b : List Nat) (tr : List Ent) : Bool :=
  tr.all fun x => match writes x.tag with
    | true => tr.all fun y => Nat.beq x.idx y.idx || ordered b x.idx y.idx || match y.tag with
      | .pure => true
      | .rd _ => true
      | _ => false
    | false => true
def clashB (b : List Nat) (tr : List Ent) (y : Ent) : Bool := match y.tag with
  | .rd id => tr.any fun x => match writes x.tag with
    | true => !(Nat.beq x.idx y.idx || ordered b x.idx y.idx || sepB x id)
    | false => false
  | _ => false
/-- What reads, once more over another memory. -/
def redoK (X : Ctx) (f : FuncId) (y : Ent) (h : Heap) (k : Option β) : Option β :=
  stepK X (fun _ _ => none) (fun _ _ _ _ => none) f y.o (opVal X y.e) h fun v _ t => match quietTag t with
    | true => br (sameAV v y.x) k none
    | false => none
def redosK (X : Ctx) (f : FuncId) (y : Ent) : List Heap → Option β → Option β
  | [], k => k
  | h :: hs, k => redoK X f y h (redosK X f y hs k)
/-- The memories that an operation may meet: none of a writer that must come behind it. -/
def heapsOf (b : List Nat) (h0 : Heap) (tr : List Ent) (y : Ent) : List Heap := h0 :: (tr.filter fun x => writes x.tag && !(b.getD x.idx 0).testBit y.idx).map (·.h1)
def redoAll (X : Ctx) (f : FuncId) (hs : Ent → List Heap) : List Ent → Option β → Option β
  | [], k => k
  | y :: ys, k => redosK X f y (hs y) (redoAll X f hs ys k)
def drawK (X : Ctx) (f : FuncId) (ops : Array Oper) (h0 : Heap) (tr : List Ent) (k : Option β) : Option β :=
  match drawOk ops tr with
  | true => k
  | false => match drawOk2 (aheads ops.toList []) tr with
    | true => redoAll X f (heapsOf (aheads ops.toList []) h0 tr) (tr.filter (clashB (aheads ops.toList []) tr)) k
    | false => none

def regionK (X : Ctx) (K : PureK) (inl : FuncId → List AV → Heap → (AV → Heap → Option β) → Option β) (f : FuncId) (id : Nat) (ops : Array Oper) (draw : Bool)
    (e0 : Env) (h0 : Heap) (k : Env → Heap → Option β) : Option β :=
  opsK X K inl f ops ops.toList 0 (freezeIds (idsOfs ((X.fz f id).map fun t => e0.getD t .dead)) e0 h0).1 (freezeIds (idsOfs ((X.fz f id).map fun t => e0.getD t .dead)) e0 h0).2 [] fun e h tr =>
    match draw with
    | true => drawK X f ops (freezeIds (idsOfs ((X.fz f id).map fun t => e0.getD t .dead)) e0 h0).2 tr (k e h)
    | false => k e h

def dstsOf (ops : Array Oper) : List Tmp := ops.toList.filterMap (·.dst)

/-- What a region answers that writes nothing. -/
def mergedInner (X : Ctx) (K : PureK) (f : FuncId) (ops : Array Oper) (t : Tmp) (e : Env) (h : Heap) : Option AV :=
  opsK X K (fun _ _ _ _ => none) f ops ops.toList 0 e h [] fun e' _ tr => match tr.all fun x => quietTag x.tag with
    | true => some (e'.getD t .dead)
    | false => none

/-- The first region's number: a loop's name. -/
def codeKey : Code → Nat
  | .region id _ _ => id
  | .seq a b => match a with
    | .skip => codeKey b
    | a => codeKey a
  | .cond _ a _ => codeKey a
  | .block _ a => codeKey a
  | .loop a => codeKey a
  | .scope a => codeKey a
  | _ => 0

def targets : Nat → Heap → List (Nat × Nat × Nat)
  | _, [] => []
  | i, o :: h => (i, o.gen + 1, o.ver) :: targets (i + 1) h

def roundEnd (ts : List (Nat × Nat × Nat)) (n : Nat) (cl : List Tmp) (e : Env) (h : Heap) : Env × Heap :=
  let r := regen ts (clearEnv cl e) h
  (r.1, dropK n r.1 r.2)

def iterK (body : Env → Heap → (Ex → Env → Heap → Option β) → Option β) (ends : Env → Heap → Env × Heap) : Nat → Env → Heap →
    (Ex → Env → Heap → Option β) → Option β
  | 0, _, _, _ => none
  | n + 1, e, h, k => body e h fun x e h => match x with
    | .normal => iterK body ends n (ends e h).1 (ends e h).2 k
    | x => k x e h

mutual
def codeK (X : Ctx) (K : PureK) (inl : FuncId → List AV → Heap → (AV → Heap → Option β) → Option β) (n : Nat) (f : FuncId) :
    Code → Env → Heap → (Ex → Env → Heap → Option β) → Option β
  | .skip, e, h, k => k .normal e h
  | .region id ops draw, e, h, k => match X.mg f id with
    | some t => optK (mergedInner X K f ops t e h) fun v => asBool v fun b => k .normal ((clearEnv (dstsOf ops) e).set t (.v (.bool b))) h
    | none => regionK X K inl f id ops draw e h fun e h => k .normal e h
  | .seq a b, e, h, k => codeK X K inl n f a e h fun x e h => match x with
    | .normal => codeK X K inl n f b e h k
    | x => k x e h
  | .cond c a b, e, h, k => match opVal X e c with
    | .v (.bool t) => br t (codeK X K inl n f a e h k) (codeK X K inl n f b e h k)
    | _ => none
  | .block id b, e, h, k => codeK X K inl n f b e h fun x e h => match x with
    | .exit i => match Nat.beq i id with
      | true => k .normal e h
      | false => k (.exit i) e h
    | x => k x e h
  | .loop b, e, h, k => match X.lp f (codeKey b) with
    | some F => F.run e h k
    | none => iterK (fun e h k => codeK X K inl n f b e h k) (roundEnd [] h.length (X.clr f (codeKey b))) n e h k
  | .exit id, e, h, k => k (.exit id) e h
  | .ret, e, h, k => k .ret e h
  | .label _, e, h, k => k .normal e h
  | .goto l, e, h, k => k (.goto l) e h
  | .scope b, e, h, k => codeK X K inl n f b e h fun x e h => match x with
    | .goto l => fromK X K inl n f l b e h fun x e h => match x with
      | .goto _ => none
      | x => k x e h
    | x => k x e h
  | _, _, _, _ => none
/-- From a label on. -/
def fromK (X : Ctx) (K : PureK) (inl : FuncId → List AV → Heap → (AV → Heap → Option β) → Option β) (n : Nat) (f : FuncId) (l : Nat) :
    Code → Env → Heap → (Ex → Env → Heap → Option β) → Option β
  | .seq a b, e, h, k => match findLabel a l with
    | some _ => fromK X K inl n f l a e h fun x e h => match x with
      | .normal => codeK X K inl n f b e h k
      | x => k x e h
    | none => fromK X K inl n f l b e h k
  | .label l', e, h, k => match Nat.beq l' l with
    | true => k .normal e h
    | false => none
  | _, _, _, _ => none
end

/-- What a reference leads to. -/
def loadV (P : Program) (t : TypeId) (h : Heap) (x : AV) : Option AV :=
  match x with
  | .ptr id gen r off => objK h id gen fun ob => rowK P ob r fun row => subvalK P t row off some
  | .pl row off => subvalK P t row off some
  | _ => none

def resultsV (P : Program) (h : Heap) (e : Env) : List ResultVar → Option (List AV)
  | [] => some []
  | .tmp t :: rest => match resultsV P h e rest with
    | some vs => some (e.getD t .dead :: vs)
    | none => none
  | .cell a t :: rest => match loadV P t h (e.getD a .dead) with
    | some v => match resultsV P h e rest with
      | some vs => some (v :: vs)
      | none => none
    | none => none

def resultsK (P : Program) (h : Heap) (e : Env) (rs : List ResultVar) (c : AV → Option β) : Option β :=
  match resultsV P h e rs with
  | some vs => match vs with
    | [x] => c x
    | vs => c (.tup vs)
  | none => none

/-- A call to which memory was given. -/
def givenK (X : Ctx) (K : PureK) (g : FuncId) (as : List AV) (h : Heap) (c : AV → Heap → Option β) : Option β :=
  match refFrees as with
  | true => match X.P.funcs[g]? with
    | some fn => callK K g as fun v => resultK (fn.resultTypes.toList.map (shOf X.P shDepth)) v fun v => br (refFree v) (c v h) none
    | none => none
  | false => none
/-- A function's body, walked at its call: `d` bounds how deep calls are walked into. -/
def bodyK (X : Ctx) (K : PureK) (n : Nat) : Nat → FuncId → List AV → Heap → (AV → Heap → Option β) → Option β
  | 0, _, _, _, _ => none
  | d + 1, g, as, h, c => match X.kil g && !refFrees as with
   | true => givenK X K g (freezeIds (idsOfs as) as h).1 (freezeIds (idsOfs as) as h).2 c
   | false => match X.ok g with
    | true => match X.P.funcs[g]? with
      | some fn => match fn.body with
        | some code =>
          codeK X K (bodyK X K n d) n g code (as ++ List.replicate (fn.ntmps - as.length) (.tup [])) h fun x e h' =>
            match x with
            | .exit _ => none
            | .goto _ => none
            | _ => resultsK X.P h' e fn.results.toList fun v => c v (dropK h.length [v] h')
        | none => none
      | none => none
    | false => none

def inlDepth : Nat := 6

end

/-- A function of plain values. -/
def topK (X : Ctx) (K : PureK) (n : Nat) (g : FuncId) (as : List AV) : Option AV :=
  bodyK X K n inlDepth g as [] fun v h =>
    match h with
    | [] => br (refFree v) (some v) none
    | h => match freezeIds (idsOf v) [v] h with
      | ([v], _) => br (refFree v) (some v) none
      | _ => none

def evF (X : Ctx) (ovr : FuncId → Option (List AV → Option AV)) : Nat → FuncId → List AV → Option AV
  | 0, _, _ => none
  | n + 1, g, as => match ovr g with
    | some f => f as
    | none => topK X (evF X ovr n) n g as
end Go.Ab
