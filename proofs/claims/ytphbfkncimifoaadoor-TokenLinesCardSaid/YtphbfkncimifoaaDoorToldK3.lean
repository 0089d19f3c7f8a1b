import Derived.Test.YtphbfkncimifoaaDoorCtx
set_option maxRecDepth 100000
set_option linter.unusedVariables false
set_option linter.unusedSimpArgs false
namespace Go.Proofs.YtphbfkncimifoaaDoor
open Go Go.Ab
/-! 3: escheat/escheatlaw23.TokenPieces -/
inductive Slaw23_TokenPieces_0 where
  | s0 (b0n : Bool) (b0 : List AV) (cuts1n : Bool) (cuts1 : List AV) (rest7n : Bool) (rest7 : List AV) (i8 : Int) (obj0_0_1 : ByteArray) (obj0_0_2 : Int) (obj0_0_3 : Int)
  | s1 (b0n : Bool) (b0 : List AV) (cuts1n : Bool) (cuts1 : List AV) (rest7n : Bool) (rest7 : List AV) (i8 : Int) (obj0_0_0n : Bool) (obj0_0_0 : List AV) (obj0_0_1 : ByteArray) (obj0_0_2 : Int) (obj0_0_3 : Int)
  | s2 (b0n : Bool) (b0 : List AV) (cuts1n : Bool) (cuts1 : List AV) (rest7n : Bool) (rest7 : List AV) (i8 : Int) (obj0_0_0n : Bool) (obj0_0_0 : List AV) (obj0_0_1 : ByteArray) (obj0_0_2 : Int) (obj0_0_3 : Int) (obj1_0_0n : Bool) (obj1_0_0 : List AV) (obj1_0_1 : ByteArray) (obj1_0_2 : Int) (obj1_0_3 : Int) (obj2 : List AV)

inductive Olaw23_TokenPieces_0 where
  | x0 (b0n : Bool) (b0 : List AV) (rest7n : Bool) (rest7 : List AV) (obj0_0_1 : ByteArray) (obj0_0_2 : Int) (obj0_0_3 : Int)
  | x1 (b0n : Bool) (b0 : List AV) (rest7n : Bool) (rest7 : List AV) (obj0_0_0n : Bool) (obj0_0_0 : List AV) (obj0_0_1 : ByteArray) (obj0_0_2 : Int) (obj0_0_3 : Int)
  | x2 (b0n : Bool) (b0 : List AV) (rest7n : Bool) (rest7 : List AV) (obj0_0_0n : Bool) (obj0_0_0 : List AV) (obj0_0_1 : ByteArray) (obj0_0_2 : Int) (obj0_0_3 : Int) (obj1_0_0n : Bool) (obj1_0_0 : List AV) (obj1_0_1 : ByteArray) (obj1_0_2 : Int) (obj1_0_3 : Int) (obj2 : List AV)

def Olaw23_TokenPieces_0.k {β : Type} (o : Olaw23_TokenPieces_0) (c0 : Bool → (List AV) → Bool → (List AV) → ByteArray → Int → Int → Option β) (c1 : Bool → (List AV) → Bool → (List AV) → Bool → (List AV) → ByteArray → Int → Int → Option β) (c2 : Bool → (List AV) → Bool → (List AV) → Bool → (List AV) → ByteArray → Int → Int → Bool → (List AV) → ByteArray → Int → Int → (List AV) → Option β) : Option β := match o with
  | .x0 b0n b0 rest7n rest7 obj0_0_1 obj0_0_2 obj0_0_3 => c0 b0n b0 rest7n rest7 obj0_0_1 obj0_0_2 obj0_0_3
  | .x1 b0n b0 rest7n rest7 obj0_0_0n obj0_0_0 obj0_0_1 obj0_0_2 obj0_0_3 => c1 b0n b0 rest7n rest7 obj0_0_0n obj0_0_0 obj0_0_1 obj0_0_2 obj0_0_3
  | .x2 b0n b0 rest7n rest7 obj0_0_0n obj0_0_0 obj0_0_1 obj0_0_2 obj0_0_3 obj1_0_0n obj1_0_0 obj1_0_1 obj1_0_2 obj1_0_3 obj2 => c2 b0n b0 rest7n rest7 obj0_0_0n obj0_0_0 obj0_0_1 obj0_0_2 obj0_0_3 obj1_0_0n obj1_0_0 obj1_0_1 obj1_0_2 obj1_0_3 obj2

def Elaw23_TokenPieces_0 : Slaw23_TokenPieces_0 → Env
  | .s0 b0n b0 cuts1n cuts1 rest7n rest7 i8 obj0_0_1 obj0_0_2 obj0_0_3 => [(.lst 1 b0n b0), (.lst 1 cuts1n cuts1), .dead, .dead, .dead, (.ptr 0 0 0 0), (.lst 2 true []), (.lst 1 rest7n rest7), (.v (.int .i64 i8)), .dead, .dead, .dead, .dead, .dead, .dead, .dead, .dead, .dead, .dead, .dead, .dead, .dead, .dead, .dead, .dead, .dead, .dead, .dead, .dead, .dead, .dead, .dead, .dead, .dead, .dead, .dead, .dead, .dead, .dead, .dead, .dead, .dead, .dead, .dead, .dead, .dead, .dead, .dead, .dead, .dead, .dead, .dead, .dead, .dead, .dead, .dead, .dead, .dead, .dead, .dead, .dead, .dead, .dead, .dead, .dead, .dead, .dead, .dead, .dead, .dead, .dead, .dead, .dead, .dead, .dead, .dead, .dead, .dead, .dead]
  | .s1 b0n b0 cuts1n cuts1 rest7n rest7 i8 obj0_0_0n obj0_0_0 obj0_0_1 obj0_0_2 obj0_0_3 => [(.lst 1 b0n b0), (.lst 1 cuts1n cuts1), .dead, .dead, .dead, (.ptr 0 0 0 0), (.lst 2 true []), (.lst 1 rest7n rest7), (.v (.int .i64 i8)), .dead, .dead, .dead, .dead, .dead, .dead, .dead, .dead, .dead, .dead, .dead, .dead, .dead, .dead, .dead, .dead, .dead, .dead, .dead, .dead, .dead, .dead, .dead, .dead, .dead, .dead, .dead, .dead, .dead, .dead, .dead, .dead, .dead, .dead, .dead, .dead, .dead, .dead, .dead, .dead, .dead, .dead, .dead, .dead, .dead, .dead, .dead, .dead, .dead, .dead, .dead, .dead, .dead, .dead, .dead, .dead, .dead, .dead, .dead, .dead, .dead, .dead, .dead, .dead, .dead, .dead, .dead, .dead, .dead, .dead]
  | .s2 b0n b0 cuts1n cuts1 rest7n rest7 i8 obj0_0_0n obj0_0_0 obj0_0_1 obj0_0_2 obj0_0_3 obj1_0_0n obj1_0_0 obj1_0_1 obj1_0_2 obj1_0_3 obj2 => [(.lst 1 b0n b0), (.lst 1 cuts1n cuts1), .dead, .dead, .dead, (.ptr 0 0 0 0), (.own 2 1 0 none), (.lst 1 rest7n rest7), (.v (.int .i64 i8)), .dead, .dead, .dead, .dead, .dead, .dead, .dead, .dead, .dead, .dead, .dead, .dead, .dead, .dead, .dead, .dead, .dead, .dead, .dead, .dead, .dead, .dead, .dead, .dead, .dead, .dead, .dead, .dead, .dead, .dead, .dead, .dead, .dead, .dead, .dead, .dead, .dead, .dead, .dead, .dead, .dead, .dead, .dead, .dead, .dead, .dead, .dead, .dead, .dead, .dead, .dead, .dead, .dead, .dead, .dead, .dead, .dead, .dead, .dead, .dead, .dead, .dead, .dead, .dead, .dead, .dead, .dead, .dead, .dead, .dead]

def Hlaw23_TokenPieces_0 : Slaw23_TokenPieces_0 → Heap
  | .s0 b0n b0 cuts1n cuts1 rest7n rest7 i8 obj0_0_1 obj0_0_2 obj0_0_3 => [⟨[(.agg [(.lst 1 true []), (.v (.string obj0_0_1)), (.v (.int .i64 obj0_0_2)), (.v (.int .i64 obj0_0_3))])], 0, 0, true, true, 27, 4, none⟩]
  | .s1 b0n b0 cuts1n cuts1 rest7n rest7 i8 obj0_0_0n obj0_0_0 obj0_0_1 obj0_0_2 obj0_0_3 => [⟨[(.agg [(.lst 1 obj0_0_0n obj0_0_0), (.v (.string obj0_0_1)), (.v (.int .i64 obj0_0_2)), (.v (.int .i64 obj0_0_3))])], 0, 0, true, true, 27, 4, none⟩]
  | .s2 b0n b0 cuts1n cuts1 rest7n rest7 i8 obj0_0_0n obj0_0_0 obj0_0_1 obj0_0_2 obj0_0_3 obj1_0_0n obj1_0_0 obj1_0_1 obj1_0_2 obj1_0_3 obj2 => [⟨[(.agg [(.lst 1 obj0_0_0n obj0_0_0), (.v (.string obj0_0_1)), (.v (.int .i64 obj0_0_2)), (.v (.int .i64 obj0_0_3))])], 0, 0, true, true, 27, 4, none⟩, ⟨[(.agg [(.lst 1 obj1_0_0n obj1_0_0), (.v (.string obj1_0_1)), (.v (.int .i64 obj1_0_2)), (.v (.int .i64 obj1_0_3))])], 1, 0, true, true, 27, 4, none⟩, ⟨obj2, 1, 0, true, false, 38, 2, none⟩]

def Tlaw23_TokenPieces_0 {β : Type} (k : Ex → Env → Heap → Option β) (o : Olaw23_TokenPieces_0) : Option β := Olaw23_TokenPieces_0.k o (fun b0n b0 rest7n rest7 obj0_0_1 obj0_0_2 obj0_0_3 => k (.exit 0) [(.lst 1 b0n b0), .dead, .dead, .dead, .dead, (.ptr 0 0 0 0), (.lst 2 true []), (.lst 1 rest7n rest7), .dead, .dead, .dead, .dead, .dead, .dead, .dead, .dead, .dead, .dead, .dead, .dead, .dead, .dead, .dead, .dead, .dead, .dead, .dead, .dead, .dead, .dead, .dead, .dead, .dead, .dead, .dead, .dead, .dead, .dead, .dead, .dead, .dead, .dead, .dead, .dead, .dead, .dead, .dead, .dead, .dead, .dead, .dead, .dead, .dead, .dead, .dead, .dead, .dead, .dead, .dead, .dead, .dead, .dead, .dead, .dead, .dead, .dead, .dead, .dead, .dead, .dead, .dead, .dead, .dead, .dead, .dead, .dead, .dead, .dead, .dead] [⟨[(.agg [(.lst 1 true []), (.v (.string obj0_0_1)), (.v (.int .i64 obj0_0_2)), (.v (.int .i64 obj0_0_3))])], 0, 0, true, true, 27, 4, none⟩]) (fun b0n b0 rest7n rest7 obj0_0_0n obj0_0_0 obj0_0_1 obj0_0_2 obj0_0_3 => k (.exit 0) [(.lst 1 b0n b0), .dead, .dead, .dead, .dead, (.ptr 0 0 0 0), (.lst 2 true []), (.lst 1 rest7n rest7), .dead, .dead, .dead, .dead, .dead, .dead, .dead, .dead, .dead, .dead, .dead, .dead, .dead, .dead, .dead, .dead, .dead, .dead, .dead, .dead, .dead, .dead, .dead, .dead, .dead, .dead, .dead, .dead, .dead, .dead, .dead, .dead, .dead, .dead, .dead, .dead, .dead, .dead, .dead, .dead, .dead, .dead, .dead, .dead, .dead, .dead, .dead, .dead, .dead, .dead, .dead, .dead, .dead, .dead, .dead, .dead, .dead, .dead, .dead, .dead, .dead, .dead, .dead, .dead, .dead, .dead, .dead, .dead, .dead, .dead, .dead] [⟨[(.agg [(.lst 1 obj0_0_0n obj0_0_0), (.v (.string obj0_0_1)), (.v (.int .i64 obj0_0_2)), (.v (.int .i64 obj0_0_3))])], 0, 0, true, true, 27, 4, none⟩]) (fun b0n b0 rest7n rest7 obj0_0_0n obj0_0_0 obj0_0_1 obj0_0_2 obj0_0_3 obj1_0_0n obj1_0_0 obj1_0_1 obj1_0_2 obj1_0_3 obj2 => k (.exit 0) [(.lst 1 b0n b0), .dead, .dead, .dead, .dead, (.ptr 0 0 0 0), (.own 2 1 0 none), (.lst 1 rest7n rest7), .dead, .dead, .dead, .dead, .dead, .dead, .dead, .dead, .dead, .dead, .dead, .dead, .dead, .dead, .dead, .dead, .dead, .dead, .dead, .dead, .dead, .dead, .dead, .dead, .dead, .dead, .dead, .dead, .dead, .dead, .dead, .dead, .dead, .dead, .dead, .dead, .dead, .dead, .dead, .dead, .dead, .dead, .dead, .dead, .dead, .dead, .dead, .dead, .dead, .dead, .dead, .dead, .dead, .dead, .dead, .dead, .dead, .dead, .dead, .dead, .dead, .dead, .dead, .dead, .dead, .dead, .dead, .dead, .dead, .dead, .dead] [⟨[(.agg [(.lst 1 obj0_0_0n obj0_0_0), (.v (.string obj0_0_1)), (.v (.int .i64 obj0_0_2)), (.v (.int .i64 obj0_0_3))])], 0, 0, true, true, 27, 4, none⟩, ⟨[(.agg [(.lst 1 obj1_0_0n obj1_0_0), (.v (.string obj1_0_1)), (.v (.int .i64 obj1_0_2)), (.v (.int .i64 obj1_0_3))])], 1, 0, true, true, 27, 4, none⟩, ⟨obj2, 1, 0, true, false, 38, 2, none⟩])

def Flaw23_TokenPieces_0 (llaw23_TokenPieces_0 : Slaw23_TokenPieces_0 → Option Olaw23_TokenPieces_0) : LoopF := ⟨fun e h k => match Nat.beq e.length 79 with
  | true => (match e.getD 0 .dead, e.getD 1 .dead, e.getD 5 .dead, e.getD 6 .dead, e.getD 7 .dead, e.getD 8 .dead, h with
    | (.lst 1 b0n b0), (.lst 1 cuts1n cuts1), (.ptr 0 0 0 0), (.lst 2 true []), (.lst 1 rest7n rest7), (.v (.int .i64 i8)), [⟨[(.agg [(.lst 1 true []), (.v (.string obj0_0_1)), (.v (.int .i64 obj0_0_2)), (.v (.int .i64 obj0_0_3))])], 0, 0, true, true, 27, 4, none⟩] => optK (llaw23_TokenPieces_0 (.s0 b0n b0 cuts1n cuts1 rest7n rest7 i8 obj0_0_1 obj0_0_2 obj0_0_3)) (Tlaw23_TokenPieces_0 k)
    | _, _, _, _, _, _, _ => none)
  | false => none⟩

def cllaw23_TokenPieces_0 : List Tmp := [2, 3, 4, 9, 10, 11, 12, 13, 14, 15, 16, 17, 18, 19, 20, 21, 22, 23, 24, 25, 26, 27, 28, 29, 30, 31, 32, 33, 34, 35, 36, 37, 38, 39, 40, 41, 42, 43, 44, 45, 46, 47, 48, 49, 50, 51, 52, 53, 54, 55, 56, 57, 58, 59, 60, 61, 62, 63, 64, 65, 66, 67, 68, 69, 70, 71, 72, 73, 74, 75, 76, 77, 78]
def clolaw23_TokenPieces_0 : List Tmp := [1, 2, 3, 4, 8, 9, 10, 11, 12, 13, 14, 15, 16, 17, 18, 19, 20, 21, 22, 23, 24, 25, 26, 27, 28, 29, 30, 31, 32, 33, 34, 35, 36, 37, 38, 39, 40, 41, 42, 43, 44, 45, 46, 47, 48, 49, 50, 51, 52, 53, 54, 55, 56, 57, 58, 59, 60, 61, 62, 63, 64, 65, 66, 67, 68, 69, 70, 71, 72, 73, 74, 75, 76, 77, 78]

noncomputable def Rlaw23_TokenPieces_0 {β : Type} (K : PureK) (d : Olaw23_TokenPieces_0 → Option β) (r : Slaw23_TokenPieces_0 → Option β) : Slaw23_TokenPieces_0 → Option β
  | .s0 b0n b0 cuts1n cuts1 rest7n rest7 i8 obj0_0_1 obj0_0_2 obj0_0_3 =>
    br (decide (i8 < ((cuts1.length : Nat) : Int)))
      (br (decide (0 ≤ i8))
        (br (decide (i8 < ((cuts1.length : Nat) : Int)))
          (optK cuts1[i8.toNat]? fun wv1 =>
          Ab.asInt wv1 .u16 fun wn2 =>
          br (w64 (((rest7.length : Nat) : Int) + 1) == 0)
            (none)
            (br (decide (0 ≤ (w64 wn2).tmod (w64 (((rest7.length : Nat) : Int) + 1))))
              (br (decide ((w64 wn2).tmod (w64 (((rest7.length : Nat) : Int) + 1)) ≤ ((rest7.length : Nat) : Int)))
                (optK (K f_token_Feed [AV.agg [AV.lst 1 true [], sv obj0_0_1, iv obj0_0_2, iv obj0_0_3], AV.lst 1 rest7n (List.take ((w64 wn2).tmod (w64 (((rest7.length : Nat) : Int) + 1))).toNat rest7)]) fun wv3 =>
                Ab.asTup wv3 2 fun wg4 =>
                Ab.asAgg (wg4 0) 4 fun wg5 =>
                Ab.asLst (wg5 0) 1 fun wb6 wr6 =>
                Ab.asStr (wg5 1) fun ws7 =>
                Ab.asInt (wg5 2) .i64 fun wn8 =>
                Ab.asInt (wg5 3) .i64 fun wn9 =>
                Ab.asLst (wg4 1) 2 fun wb10 wr10 =>
                br (decide (0 ≤ (w64 wn2).tmod (w64 (((rest7.length : Nat) : Int) + 1))))
                  (br (decide ((w64 wn2).tmod (w64 (((rest7.length : Nat) : Int) + 1)) ≤ ((rest7.length : Nat) : Int)))
                    (br wr10.isEmpty
                      (r (.s1 b0n b0 cuts1n cuts1 rest7n (List.drop ((w64 wn2).tmod (w64 (((rest7.length : Nat) : Int) + 1))).toNat rest7) (w64 (i8 + 1)) wb6 wr6 ws7 wn8 wn9))
                      (br (lenOk wr10.length 32 && lenOk wr10.length 1)
                        (r (.s2 b0n b0 cuts1n cuts1 rest7n (List.drop ((w64 wn2).tmod (w64 (((rest7.length : Nat) : Int) + 1))).toNat rest7) (w64 (i8 + 1)) wb6 wr6 ws7 wn8 wn9 wb6 wr6 ws7 wn8 wn9 wr10))
                        (none)))
                    (none))
                  (none))
                (none))
              (none)))
          (none))
        (none))
      (d (.x0 b0n b0 rest7n rest7 obj0_0_1 obj0_0_2 obj0_0_3))
  | .s1 b0n b0 cuts1n cuts1 rest7n rest7 i8 obj0_0_0n obj0_0_0 obj0_0_1 obj0_0_2 obj0_0_3 =>
    br (decide (i8 < ((cuts1.length : Nat) : Int)))
      (br (decide (0 ≤ i8))
        (br (decide (i8 < ((cuts1.length : Nat) : Int)))
          (optK cuts1[i8.toNat]? fun wv11 =>
          Ab.asInt wv11 .u16 fun wn12 =>
          br (w64 (((rest7.length : Nat) : Int) + 1) == 0)
            (none)
            (br (decide (0 ≤ (w64 wn12).tmod (w64 (((rest7.length : Nat) : Int) + 1))))
              (br (decide ((w64 wn12).tmod (w64 (((rest7.length : Nat) : Int) + 1)) ≤ ((rest7.length : Nat) : Int)))
                (optK (K f_token_Feed [AV.agg [AV.lst 1 obj0_0_0n obj0_0_0, sv obj0_0_1, iv obj0_0_2, iv obj0_0_3], AV.lst 1 rest7n (List.take ((w64 wn12).tmod (w64 (((rest7.length : Nat) : Int) + 1))).toNat rest7)]) fun wv13 =>
                Ab.asTup wv13 2 fun wg14 =>
                Ab.asAgg (wg14 0) 4 fun wg15 =>
                Ab.asLst (wg15 0) 1 fun wb16 wr16 =>
                Ab.asStr (wg15 1) fun ws17 =>
                Ab.asInt (wg15 2) .i64 fun wn18 =>
                Ab.asInt (wg15 3) .i64 fun wn19 =>
                Ab.asLst (wg14 1) 2 fun wb20 wr20 =>
                br (decide (0 ≤ (w64 wn12).tmod (w64 (((rest7.length : Nat) : Int) + 1))))
                  (br (decide ((w64 wn12).tmod (w64 (((rest7.length : Nat) : Int) + 1)) ≤ ((rest7.length : Nat) : Int)))
                    (br wr20.isEmpty
                      (r (.s1 b0n b0 cuts1n cuts1 rest7n (List.drop ((w64 wn12).tmod (w64 (((rest7.length : Nat) : Int) + 1))).toNat rest7) (w64 (i8 + 1)) wb16 wr16 ws17 wn18 wn19))
                      (br (lenOk wr20.length 32 && lenOk wr20.length 1)
                        (r (.s2 b0n b0 cuts1n cuts1 rest7n (List.drop ((w64 wn12).tmod (w64 (((rest7.length : Nat) : Int) + 1))).toNat rest7) (w64 (i8 + 1)) wb16 wr16 ws17 wn18 wn19 wb16 wr16 ws17 wn18 wn19 wr20))
                        (none)))
                    (none))
                  (none))
                (none))
              (none)))
          (none))
        (none))
      (d (.x1 b0n b0 rest7n rest7 obj0_0_0n obj0_0_0 obj0_0_1 obj0_0_2 obj0_0_3))
  | .s2 b0n b0 cuts1n cuts1 rest7n rest7 i8 obj0_0_0n obj0_0_0 obj0_0_1 obj0_0_2 obj0_0_3 obj1_0_0n obj1_0_0 obj1_0_1 obj1_0_2 obj1_0_3 obj2 =>
    br (decide (i8 < ((cuts1.length : Nat) : Int)))
      (br (decide (0 ≤ i8))
        (br (decide (i8 < ((cuts1.length : Nat) : Int)))
          (optK cuts1[i8.toNat]? fun wv21 =>
          Ab.asInt wv21 .u16 fun wn22 =>
          br (w64 (((rest7.length : Nat) : Int) + 1) == 0)
            (none)
            (br (decide (0 ≤ (w64 wn22).tmod (w64 (((rest7.length : Nat) : Int) + 1))))
              (br (decide ((w64 wn22).tmod (w64 (((rest7.length : Nat) : Int) + 1)) ≤ ((rest7.length : Nat) : Int)))
                (optK (K f_token_Feed [AV.agg [AV.lst 1 obj0_0_0n obj0_0_0, sv obj0_0_1, iv obj0_0_2, iv obj0_0_3], AV.lst 1 rest7n (List.take ((w64 wn22).tmod (w64 (((rest7.length : Nat) : Int) + 1))).toNat rest7)]) fun wv23 =>
                Ab.asTup wv23 2 fun wg24 =>
                Ab.asAgg (wg24 0) 4 fun wg25 =>
                Ab.asLst (wg25 0) 1 fun wb26 wr26 =>
                Ab.asStr (wg25 1) fun ws27 =>
                Ab.asInt (wg25 2) .i64 fun wn28 =>
                Ab.asInt (wg25 3) .i64 fun wn29 =>
                Ab.asLst (wg24 1) 2 fun wb30 wr30 =>
                br (decide (0 ≤ (w64 wn22).tmod (w64 (((rest7.length : Nat) : Int) + 1))))
                  (br (decide ((w64 wn22).tmod (w64 (((rest7.length : Nat) : Int) + 1)) ≤ ((rest7.length : Nat) : Int)))
                    (br (lenOk (obj2.length + wr30.length) 32 && lenOk (obj2.length + wr30.length) 1)
                      (r (.s2 b0n b0 cuts1n cuts1 rest7n (List.drop ((w64 wn22).tmod (w64 (((rest7.length : Nat) : Int) + 1))).toNat rest7) (w64 (i8 + 1)) wb26 wr26 ws27 wn28 wn29 obj1_0_0n obj1_0_0 obj1_0_1 obj1_0_2 obj1_0_3 (obj2 ++ wr30)))
                      (none))
                    (none))
                  (none))
                (none))
              (none)))
          (none))
        (none))
      (d (.x2 b0n b0 rest7n rest7 obj0_0_0n obj0_0_0 obj0_0_1 obj0_0_2 obj0_0_3 obj1_0_0n obj1_0_0 obj1_0_1 obj1_0_2 obj1_0_3 obj2))
theorem roundlaw23_TokenPieces_0 (K : PureK) {β : Type} (r : Env → Heap → Option β) (k : Ex → Env → Heap → Option β) (s : Slaw23_TokenPieces_0) : tellOne X K 0 3 0 [(1, 1, 0), (2, 1, 0), (3, 1, 0)] 1 cllaw23_TokenPieces_0 clolaw23_TokenPieces_0 r k (Elaw23_TokenPieces_0 s) (Hlaw23_TokenPieces_0 s) = Rlaw23_TokenPieces_0 K (Tlaw23_TokenPieces_0 k) (fun s => r (Elaw23_TokenPieces_0 s) (Hlaw23_TokenPieces_0 s)) s := by
  cases s <;> kernel_rfl
theorem Olaw23_TokenPieces_0.bind_k {β γ : Type} (o : Olaw23_TokenPieces_0) (c0 : Bool → (List AV) → Bool → (List AV) → ByteArray → Int → Int → Option β) (c1 : Bool → (List AV) → Bool → (List AV) → Bool → (List AV) → ByteArray → Int → Int → Option β) (c2 : Bool → (List AV) → Bool → (List AV) → Bool → (List AV) → ByteArray → Int → Int → Bool → (List AV) → ByteArray → Int → Int → (List AV) → Option β) (φ : β → Option γ) : (Olaw23_TokenPieces_0.k o c0 c1 c2).bind φ = Olaw23_TokenPieces_0.k o (fun b0n b0 rest7n rest7 obj0_0_1 obj0_0_2 obj0_0_3 => (c0 b0n b0 rest7n rest7 obj0_0_1 obj0_0_2 obj0_0_3).bind φ) (fun b0n b0 rest7n rest7 obj0_0_0n obj0_0_0 obj0_0_1 obj0_0_2 obj0_0_3 => (c1 b0n b0 rest7n rest7 obj0_0_0n obj0_0_0 obj0_0_1 obj0_0_2 obj0_0_3).bind φ) (fun b0n b0 rest7n rest7 obj0_0_0n obj0_0_0 obj0_0_1 obj0_0_2 obj0_0_3 obj1_0_0n obj1_0_0 obj1_0_1 obj1_0_2 obj1_0_3 obj2 => (c2 b0n b0 rest7n rest7 obj0_0_0n obj0_0_0 obj0_0_1 obj0_0_2 obj0_0_3 obj1_0_0n obj1_0_0 obj1_0_1 obj1_0_2 obj1_0_3 obj2).bind φ) := by cases o <;> rfl
theorem natlaw23_TokenPieces_0 (K : PureK) {β γ : Type} (φ : β → Option γ) (d : Olaw23_TokenPieces_0 → Option β) (r : Slaw23_TokenPieces_0 → Option β) (s : Slaw23_TokenPieces_0) : Rlaw23_TokenPieces_0 K (fun o => (d o).bind φ) (fun s => (r s).bind φ) s = (Rlaw23_TokenPieces_0 K d r s).bind φ := by
  cases s <;> simp only [Rlaw23_TokenPieces_0, bind_optK, bind_br, bind_asInt, bind_asBool, bind_asStr, bind_asLst, bind_asAgg, bind_asTup, bind_asBig, bind_asErr, bind_none]
theorem outlaw23_TokenPieces_0 (o : Olaw23_TokenPieces_0) : ∃ x e' h', ∀ {β : Type} (k : Ex → Env → Heap → Option β), Tlaw23_TokenPieces_0 k o = k x e' h' := by cases o <;> exact ⟨_, _, _, fun _ => rfl⟩
theorem oklaw23_TokenPieces_0 {K : PureK} (hX : Sound X) (hK : KOk X K) {llaw23_TokenPieces_0 : Slaw23_TokenPieces_0 → Option Olaw23_TokenPieces_0} (hl : ∀ s o, llaw23_TokenPieces_0 s = some o → ∃ m, fuelRec (Rlaw23_TokenPieces_0 K some) m s = some o) (β : Type) (e : Env) (h : Heap) (k : Ex → Env → Heap → Option β) (r : β) (hr : (Flaw23_TokenPieces_0 llaw23_TokenPieces_0).run e h k = some r) : ∃ x e' h', k x e' h' = some r ∧ CodeAt X (.loop (loopBody (X).P 3 0)) e h x e' h' := by
  obtain ⟨fn, c, hin⟩ := loopIn_of (X := X) (f := 3) (i := 0) (key := 9) (by kernel_rfl)
  simp only [Flaw23_TokenPieces_0] at hr
  split at hr
  · rename_i hlen
    have hlen := Nat.eq_of_beq_eq_true hlen
    split at hr
    · rename_i q0 q1 q5 q6 q7 q8
      obtain ⟨o, ho, hr⟩ := optK_some hr
      refine tell_ok hX (KOk.congr (X := X) (Y := X) rfl rfl hK) hin (E := Elaw23_TokenPieces_0) (H := Hlaw23_TokenPieces_0) (R := fun d r => Rlaw23_TokenPieces_0 K d r) (T := Tlaw23_TokenPieces_0) (ts := [(1, 1, 0), (2, 1, 0), (3, 1, 0)]) (len := 1) (cl := cllaw23_TokenPieces_0) (clo := clolaw23_TokenPieces_0) (roundlaw23_TokenPieces_0 K) (natlaw23_TokenPieces_0 K) outlaw23_TokenPieces_0 (hl _ _ ho) (cl0 := cllaw23_TokenPieces_0) (ts0 := []) ?_ rfl (by kernel_rfl) (by kernel_rfl) hr
      rw [clear_lit e 79 hlen, show clearEnv cllaw23_TokenPieces_0 ((List.range 79).map fun i => e.getD i .dead) = [e.getD 0 .dead, e.getD 1 .dead, .dead, .dead, .dead, e.getD 5 .dead, e.getD 6 .dead, e.getD 7 .dead, e.getD 8 .dead, .dead, .dead, .dead, .dead, .dead, .dead, .dead, .dead, .dead, .dead, .dead, .dead, .dead, .dead, .dead, .dead, .dead, .dead, .dead, .dead, .dead, .dead, .dead, .dead, .dead, .dead, .dead, .dead, .dead, .dead, .dead, .dead, .dead, .dead, .dead, .dead, .dead, .dead, .dead, .dead, .dead, .dead, .dead, .dead, .dead, .dead, .dead, .dead, .dead, .dead, .dead, .dead, .dead, .dead, .dead, .dead, .dead, .dead, .dead, .dead, .dead, .dead, .dead, .dead, .dead, .dead, .dead, .dead, .dead, .dead] from by kernel_rfl]; rw [q0, q1, q5, q6, q7, q8]
      kernel_rfl
    · cases hr
  · cases hr
noncomputable def Rlaw23_TokenPieces (K : PureK) (llaw23_TokenPieces_0 : Slaw23_TokenPieces_0 → Option Olaw23_TokenPieces_0) (b0n : Bool) (b0 : List AV) (cuts1n : Bool) (cuts1 : List AV) : Option AV :=
  optK (K f_law23_alive []) fun wv5 =>
    Ab.asBool wv5 fun wb6 =>
    br (!wb6)
      (some (bv false))
      (optK (br (decide (((b0.length : Nat) : Int) > 5000))
          (some (bv true))
          (some (bv (decide (((cuts1.length : Nat) : Int) > 200))))) fun wv7 =>
      Ab.asBool wv7 fun wb8 =>
      br wb8
        (some (bv true))
        (optK (llaw23_TokenPieces_0 (Slaw23_TokenPieces_0.s0 b0n b0 cuts1n cuts1 b0n b0 0 ({ data := #[] } : ByteArray) 0 0)) fun wo9 => Olaw23_TokenPieces_0.k wo9
          (fun (b0n_10 : Bool) (b0_10 : List AV) (rest7n_10 : Bool) (rest7_10 : List AV) (obj0_0_1_10 : ByteArray) (obj0_0_2_10 : Int) (obj0_0_3_10 : Int) => optK (K f_token_Feed [AV.agg [AV.lst 1 true [], sv obj0_0_1_10, iv obj0_0_2_10, iv obj0_0_3_10], AV.lst 1 rest7n_10 rest7_10]) fun wv11 =>
          Ab.asTup wv11 2 fun wg12 =>
          Ab.asAgg (wg12 0) 4 fun wg13 =>
          Ab.asLst (wg13 0) 1 fun wb14 wr14 =>
          Ab.asStr (wg13 1) fun ws15 =>
          Ab.asInt (wg13 2) .i64 fun wn16 =>
          Ab.asInt (wg13 3) .i64 fun wn17 =>
          Ab.asLst (wg12 1) 2 fun wb18 wr18 =>
          br wr18.isEmpty
            (optK (K f_token_Feed [AV.agg [AV.lst 1 true [], sv ({ data := #[] } : ByteArray), iv 0, iv 0], AV.lst 1 b0n_10 b0_10]) fun wv19 =>
            Ab.asTup wv19 2 fun wg20 =>
            Ab.asAgg (wg20 0) 4 fun wg21 =>
            Ab.asLst (wg21 0) 1 fun wb22 wr22 =>
            Ab.asStr (wg21 1) fun ws23 =>
            Ab.asInt (wg21 2) .i64 fun wn24 =>
            Ab.asInt (wg21 3) .i64 fun wn25 =>
            Ab.asLst (wg20 1) 2 fun wb26 wr26 =>
            optK (K f_ref23_Same [AV.agg [AV.lst 1 wb14 wr14, sv ws15, iv wn16, iv wn17], AV.agg [AV.lst 1 wb22 wr22, sv ws23, iv wn24, iv wn25]]) fun wv27 =>
            Ab.asBool wv27 fun wb28 =>
            br wb28
              (optK (K f_ref23_Outs [AV.lst 2 true [], AV.lst 2 wb26 wr26]) fun wv29 =>
              Ab.asBool wv29 fun wb30 =>
              some (bv wb30))
              (some (bv false)))
            (br (lenOk wr18.length 32 && lenOk wr18.length 1)
              (optK (K f_token_Feed [AV.agg [AV.lst 1 true [], sv ({ data := #[] } : ByteArray), iv 0, iv 0], AV.lst 1 b0n_10 b0_10]) fun wv31 =>
              Ab.asTup wv31 2 fun wg32 =>
              Ab.asAgg (wg32 0) 4 fun wg33 =>
              Ab.asLst (wg33 0) 1 fun wb34 wr34 =>
              Ab.asStr (wg33 1) fun ws35 =>
              Ab.asInt (wg33 2) .i64 fun wn36 =>
              Ab.asInt (wg33 3) .i64 fun wn37 =>
              Ab.asLst (wg32 1) 2 fun wb38 wr38 =>
              optK (K f_ref23_Same [AV.agg [AV.lst 1 wb14 wr14, sv ws15, iv wn16, iv wn17], AV.agg [AV.lst 1 wb34 wr34, sv ws35, iv wn36, iv wn37]]) fun wv39 =>
              Ab.asBool wv39 fun wb40 =>
              br wb40
                (optK (K f_ref23_Outs [AV.lst 2 false wr18, AV.lst 2 wb38 wr38]) fun wv41 =>
                Ab.asBool wv41 fun wb42 =>
                some (bv wb42))
                (some (bv false)))
              (none)))
          (fun (b0n_43 : Bool) (b0_43 : List AV) (rest7n_43 : Bool) (rest7_43 : List AV) (obj0_0_0n_43 : Bool) (obj0_0_0_43 : List AV) (obj0_0_1_43 : ByteArray) (obj0_0_2_43 : Int) (obj0_0_3_43 : Int) => optK (K f_token_Feed [AV.agg [AV.lst 1 obj0_0_0n_43 obj0_0_0_43, sv obj0_0_1_43, iv obj0_0_2_43, iv obj0_0_3_43], AV.lst 1 rest7n_43 rest7_43]) fun wv44 =>
          Ab.asTup wv44 2 fun wg45 =>
          Ab.asAgg (wg45 0) 4 fun wg46 =>
          Ab.asLst (wg46 0) 1 fun wb47 wr47 =>
          Ab.asStr (wg46 1) fun ws48 =>
          Ab.asInt (wg46 2) .i64 fun wn49 =>
          Ab.asInt (wg46 3) .i64 fun wn50 =>
          Ab.asLst (wg45 1) 2 fun wb51 wr51 =>
          br wr51.isEmpty
            (optK (K f_token_Feed [AV.agg [AV.lst 1 true [], sv ({ data := #[] } : ByteArray), iv 0, iv 0], AV.lst 1 b0n_43 b0_43]) fun wv52 =>
            Ab.asTup wv52 2 fun wg53 =>
            Ab.asAgg (wg53 0) 4 fun wg54 =>
            Ab.asLst (wg54 0) 1 fun wb55 wr55 =>
            Ab.asStr (wg54 1) fun ws56 =>
            Ab.asInt (wg54 2) .i64 fun wn57 =>
            Ab.asInt (wg54 3) .i64 fun wn58 =>
            Ab.asLst (wg53 1) 2 fun wb59 wr59 =>
            optK (K f_ref23_Same [AV.agg [AV.lst 1 wb47 wr47, sv ws48, iv wn49, iv wn50], AV.agg [AV.lst 1 wb55 wr55, sv ws56, iv wn57, iv wn58]]) fun wv60 =>
            Ab.asBool wv60 fun wb61 =>
            br wb61
              (optK (K f_ref23_Outs [AV.lst 2 true [], AV.lst 2 wb59 wr59]) fun wv62 =>
              Ab.asBool wv62 fun wb63 =>
              some (bv wb63))
              (some (bv false)))
            (br (lenOk wr51.length 32 && lenOk wr51.length 1)
              (optK (K f_token_Feed [AV.agg [AV.lst 1 true [], sv ({ data := #[] } : ByteArray), iv 0, iv 0], AV.lst 1 b0n_43 b0_43]) fun wv64 =>
              Ab.asTup wv64 2 fun wg65 =>
              Ab.asAgg (wg65 0) 4 fun wg66 =>
              Ab.asLst (wg66 0) 1 fun wb67 wr67 =>
              Ab.asStr (wg66 1) fun ws68 =>
              Ab.asInt (wg66 2) .i64 fun wn69 =>
              Ab.asInt (wg66 3) .i64 fun wn70 =>
              Ab.asLst (wg65 1) 2 fun wb71 wr71 =>
              optK (K f_ref23_Same [AV.agg [AV.lst 1 wb47 wr47, sv ws48, iv wn49, iv wn50], AV.agg [AV.lst 1 wb67 wr67, sv ws68, iv wn69, iv wn70]]) fun wv72 =>
              Ab.asBool wv72 fun wb73 =>
              br wb73
                (optK (K f_ref23_Outs [AV.lst 2 false wr51, AV.lst 2 wb71 wr71]) fun wv74 =>
                Ab.asBool wv74 fun wb75 =>
                some (bv wb75))
                (some (bv false)))
              (none)))
          (fun (b0n_76 : Bool) (b0_76 : List AV) (rest7n_76 : Bool) (rest7_76 : List AV) (obj0_0_0n_76 : Bool) (obj0_0_0_76 : List AV) (obj0_0_1_76 : ByteArray) (obj0_0_2_76 : Int) (obj0_0_3_76 : Int) (obj1_0_0n_76 : Bool) (obj1_0_0_76 : List AV) (obj1_0_1_76 : ByteArray) (obj1_0_2_76 : Int) (obj1_0_3_76 : Int) (obj2_76 : List AV) => optK (K f_token_Feed [AV.agg [AV.lst 1 obj0_0_0n_76 obj0_0_0_76, sv obj0_0_1_76, iv obj0_0_2_76, iv obj0_0_3_76], AV.lst 1 rest7n_76 rest7_76]) fun wv77 =>
          Ab.asTup wv77 2 fun wg78 =>
          Ab.asAgg (wg78 0) 4 fun wg79 =>
          Ab.asLst (wg79 0) 1 fun wb80 wr80 =>
          Ab.asStr (wg79 1) fun ws81 =>
          Ab.asInt (wg79 2) .i64 fun wn82 =>
          Ab.asInt (wg79 3) .i64 fun wn83 =>
          Ab.asLst (wg78 1) 2 fun wb84 wr84 =>
          br (lenOk (obj2_76.length + wr84.length) 32 && lenOk (obj2_76.length + wr84.length) 1)
            (optK (K f_token_Feed [AV.agg [AV.lst 1 true [], sv ({ data := #[] } : ByteArray), iv 0, iv 0], AV.lst 1 b0n_76 b0_76]) fun wv85 =>
            Ab.asTup wv85 2 fun wg86 =>
            Ab.asAgg (wg86 0) 4 fun wg87 =>
            Ab.asLst (wg87 0) 1 fun wb88 wr88 =>
            Ab.asStr (wg87 1) fun ws89 =>
            Ab.asInt (wg87 2) .i64 fun wn90 =>
            Ab.asInt (wg87 3) .i64 fun wn91 =>
            Ab.asLst (wg86 1) 2 fun wb92 wr92 =>
            optK (K f_ref23_Same [AV.agg [AV.lst 1 wb80 wr80, sv ws81, iv wn82, iv wn83], AV.agg [AV.lst 1 wb88 wr88, sv ws89, iv wn90, iv wn91]]) fun wv93 =>
            Ab.asBool wv93 fun wb94 =>
            br wb94
              (optK (K f_ref23_Outs [AV.lst 2 false (obj2_76 ++ wr84), AV.lst 2 wb92 wr92]) fun wv95 =>
              Ab.asBool wv95 fun wb96 =>
              some (bv wb96))
              (some (bv false)))
            (none))))
theorem toplaw23_TokenPieces (K : PureK) (llaw23_TokenPieces_0 : Slaw23_TokenPieces_0 → Option Olaw23_TokenPieces_0) (b0n : Bool) (b0 : List AV) (cuts1n : Bool) (cuts1 : List AV) : topK (addLp X 3 9 (Flaw23_TokenPieces_0 llaw23_TokenPieces_0)) K 0 f_law23_TokenPieces [(.lst 1 b0n b0), (.lst 1 cuts1n cuts1)] = Rlaw23_TokenPieces K llaw23_TokenPieces_0 b0n b0 cuts1n cuts1 := by kernel_rfl
theorem pclaw23_TokenPieces {K : PureK} (hK : KOk X K) {llaw23_TokenPieces_0 : Slaw23_TokenPieces_0 → Option Olaw23_TokenPieces_0} (hlaw23_TokenPieces_0 : ∀ s o, llaw23_TokenPieces_0 s = some o → ∃ m, fuelRec (Rlaw23_TokenPieces_0 K some) m s = some o) {b0n : Bool} {b0 : List AV} {cuts1n : Bool} {cuts1 : List AV} {v : AV} (h : Rlaw23_TokenPieces K llaw23_TokenPieces_0 b0n b0 cuts1n cuts1 = some v) : PureCall X f_law23_TokenPieces [(.lst 1 b0n b0), (.lst 1 cuts1n cuts1)] v := by
  have hSo0 := soundX
  obtain ⟨_, _, hin0⟩ := loopIn_of (X := X) (f := 3) (i := 0) (key := 9) (by kernel_rfl)
  have hSo1 := sound_add hSo0 hin0 (oklaw23_TokenPieces_0 hSo0 hK hlaw23_TokenPieces_0)
  exact tell_top (X := X) (Y := (addLp X 3 9 (Flaw23_TokenPieces_0 llaw23_TokenPieces_0))) rfl rfl hSo1 hK ((toplaw23_TokenPieces K llaw23_TokenPieces_0 b0n b0 cuts1n cuts1).trans h)

/-! 5: escheat/escheatlaw23.TokenSmall -/
inductive Slaw23_TokenSmall_1 where
  | s0 (b0n : Bool) (b0 : List AV) (i4 : Int) (l6n : Bool) (l6 : List AV) (k7 : Int) (obj0_0_0n : Bool) (obj0_0_0 : List AV) (obj0_0_1 : ByteArray) (obj0_0_2 : Int) (obj0_0_3 : Int) (obj1_0_0n : Bool) (obj1_0_0 : List AV) (obj1_0_1 : ByteArray) (obj1_0_2 : Int) (obj1_0_3 : Int)

inductive Olaw23_TokenSmall_1 where
  | x0 (b0n : Bool) (b0 : List AV) (t2 : Bool) (i4 : Int) (obj0_0_0n : Bool) (obj0_0_0 : List AV) (obj0_0_1 : ByteArray) (obj0_0_2 : Int) (obj0_0_3 : Int) (obj1_0_0n : Bool) (obj1_0_0 : List AV) (obj1_0_1 : ByteArray) (obj1_0_2 : Int) (obj1_0_3 : Int)
  | x1 (b0n : Bool) (b0 : List AV) (i4 : Int) (obj0_0_0n : Bool) (obj0_0_0 : List AV) (obj0_0_1 : ByteArray) (obj0_0_2 : Int) (obj0_0_3 : Int) (obj1_0_0n : Bool) (obj1_0_0 : List AV) (obj1_0_1 : ByteArray) (obj1_0_2 : Int) (obj1_0_3 : Int)

def Olaw23_TokenSmall_1.k {β : Type} (o : Olaw23_TokenSmall_1) (c0 : Bool → (List AV) → Bool → Int → Bool → (List AV) → ByteArray → Int → Int → Bool → (List AV) → ByteArray → Int → Int → Option β) (c1 : Bool → (List AV) → Int → Bool → (List AV) → ByteArray → Int → Int → Bool → (List AV) → ByteArray → Int → Int → Option β) : Option β := match o with
  | .x0 b0n b0 t2 i4 obj0_0_0n obj0_0_0 obj0_0_1 obj0_0_2 obj0_0_3 obj1_0_0n obj1_0_0 obj1_0_1 obj1_0_2 obj1_0_3 => c0 b0n b0 t2 i4 obj0_0_0n obj0_0_0 obj0_0_1 obj0_0_2 obj0_0_3 obj1_0_0n obj1_0_0 obj1_0_1 obj1_0_2 obj1_0_3
  | .x1 b0n b0 i4 obj0_0_0n obj0_0_0 obj0_0_1 obj0_0_2 obj0_0_3 obj1_0_0n obj1_0_0 obj1_0_1 obj1_0_2 obj1_0_3 => c1 b0n b0 i4 obj0_0_0n obj0_0_0 obj0_0_1 obj0_0_2 obj0_0_3 obj1_0_0n obj1_0_0 obj1_0_1 obj1_0_2 obj1_0_3

def Elaw23_TokenSmall_1 : Slaw23_TokenSmall_1 → Env
  | .s0 b0n b0 i4 l6n l6 k7 obj0_0_0n obj0_0_0 obj0_0_1 obj0_0_2 obj0_0_3 obj1_0_0n obj1_0_0 obj1_0_1 obj1_0_2 obj1_0_3 => [(.lst 1 b0n b0), .dead, .dead, (.ptr 0 0 0 0), (.v (.int .i64 i4)), .dead, (.lst 2 l6n l6), (.v (.int .i64 k7)), .dead, .dead, .dead, .dead, .dead, .dead, .dead, .dead, .dead, .dead, .dead, .dead, .dead, .dead, .dead, .dead, .dead, .dead, .dead, .dead, .dead, .dead, .dead, .dead, .dead, .dead, .dead, .dead, .dead, .dead, .dead, .dead, .dead, .dead, .dead, .dead, .dead, .dead, .dead, .dead, .dead, .dead, .dead, .dead, .dead, .dead, .dead, .dead, .dead, .dead, .dead, .dead, .dead, .dead, .dead, .dead, .dead, .dead, .dead, .dead, .dead, .dead, .dead, .dead, .dead, .dead, .dead, .dead, .dead, .dead, .dead, .dead, .dead, .dead, .dead, .dead, .dead, .dead, .dead, .dead, .dead, .dead, .dead, .dead, .dead, .dead, .dead, .dead, .dead, .dead, .dead, .dead, .dead, .dead, .dead, .dead, .dead, .dead, .dead, .dead, .dead, .dead, .dead, .dead, .dead]

def Hlaw23_TokenSmall_1 : Slaw23_TokenSmall_1 → Heap
  | .s0 b0n b0 i4 l6n l6 k7 obj0_0_0n obj0_0_0 obj0_0_1 obj0_0_2 obj0_0_3 obj1_0_0n obj1_0_0 obj1_0_1 obj1_0_2 obj1_0_3 => [⟨[(.agg [(.lst 1 obj0_0_0n obj0_0_0), (.v (.string obj0_0_1)), (.v (.int .i64 obj0_0_2)), (.v (.int .i64 obj0_0_3))])], 0, 0, true, true, 27, 4, none⟩, ⟨[(.agg [(.lst 1 obj1_0_0n obj1_0_0), (.v (.string obj1_0_1)), (.v (.int .i64 obj1_0_2)), (.v (.int .i64 obj1_0_3))])], 0, 0, true, true, 27, 4, none⟩]

def Tlaw23_TokenSmall_1 {β : Type} (k : Ex → Env → Heap → Option β) (o : Olaw23_TokenSmall_1) : Option β := Olaw23_TokenSmall_1.k o (fun b0n b0 t2 i4 obj0_0_0n obj0_0_0 obj0_0_1 obj0_0_2 obj0_0_3 obj1_0_0n obj1_0_0 obj1_0_1 obj1_0_2 obj1_0_3 => k .ret [(.lst 1 b0n b0), .dead, (.v (.bool t2)), (.ptr 0 0 0 0), (.v (.int .i64 i4)), .dead, .dead, .dead, .dead, .dead, .dead, .dead, .dead, .dead, .dead, .dead, .dead, .dead, .dead, .dead, .dead, .dead, .dead, .dead, .dead, .dead, .dead, .dead, .dead, .dead, .dead, .dead, .dead, .dead, .dead, .dead, .dead, .dead, .dead, .dead, .dead, .dead, .dead, .dead, .dead, .dead, .dead, .dead, .dead, .dead, .dead, .dead, .dead, .dead, .dead, .dead, .dead, .dead, .dead, .dead, .dead, .dead, .dead, .dead, .dead, .dead, .dead, .dead, .dead, .dead, .dead, .dead, .dead, .dead, .dead, .dead, .dead, .dead, .dead, .dead, .dead, .dead, .dead, .dead, .dead, .dead, .dead, .dead, .dead, .dead, .dead, .dead, .dead, .dead, .dead, .dead, .dead, .dead, .dead, .dead, .dead, .dead, .dead, .dead, .dead, .dead, .dead, .dead, .dead, .dead, .dead, .dead, .dead] [⟨[(.agg [(.lst 1 obj0_0_0n obj0_0_0), (.v (.string obj0_0_1)), (.v (.int .i64 obj0_0_2)), (.v (.int .i64 obj0_0_3))])], 0, 0, true, true, 27, 4, none⟩, ⟨[(.agg [(.lst 1 obj1_0_0n obj1_0_0), (.v (.string obj1_0_1)), (.v (.int .i64 obj1_0_2)), (.v (.int .i64 obj1_0_3))])], 0, 0, true, true, 27, 4, none⟩]) (fun b0n b0 i4 obj0_0_0n obj0_0_0 obj0_0_1 obj0_0_2 obj0_0_3 obj1_0_0n obj1_0_0 obj1_0_1 obj1_0_2 obj1_0_3 => k (.exit 2) [(.lst 1 b0n b0), .dead, .dead, (.ptr 0 0 0 0), (.v (.int .i64 i4)), .dead, .dead, .dead, .dead, .dead, .dead, .dead, .dead, .dead, .dead, .dead, .dead, .dead, .dead, .dead, .dead, .dead, .dead, .dead, .dead, .dead, .dead, .dead, .dead, .dead, .dead, .dead, .dead, .dead, .dead, .dead, .dead, .dead, .dead, .dead, .dead, .dead, .dead, .dead, .dead, .dead, .dead, .dead, .dead, .dead, .dead, .dead, .dead, .dead, .dead, .dead, .dead, .dead, .dead, .dead, .dead, .dead, .dead, .dead, .dead, .dead, .dead, .dead, .dead, .dead, .dead, .dead, .dead, .dead, .dead, .dead, .dead, .dead, .dead, .dead, .dead, .dead, .dead, .dead, .dead, .dead, .dead, .dead, .dead, .dead, .dead, .dead, .dead, .dead, .dead, .dead, .dead, .dead, .dead, .dead, .dead, .dead, .dead, .dead, .dead, .dead, .dead, .dead, .dead, .dead, .dead, .dead, .dead] [⟨[(.agg [(.lst 1 obj0_0_0n obj0_0_0), (.v (.string obj0_0_1)), (.v (.int .i64 obj0_0_2)), (.v (.int .i64 obj0_0_3))])], 0, 0, true, true, 27, 4, none⟩, ⟨[(.agg [(.lst 1 obj1_0_0n obj1_0_0), (.v (.string obj1_0_1)), (.v (.int .i64 obj1_0_2)), (.v (.int .i64 obj1_0_3))])], 0, 0, true, true, 27, 4, none⟩])

def Flaw23_TokenSmall_1 (llaw23_TokenSmall_1 : Slaw23_TokenSmall_1 → Option Olaw23_TokenSmall_1) : LoopF := ⟨fun e h k => match Nat.beq e.length 113 with
  | true => (match e.getD 0 .dead, e.getD 3 .dead, e.getD 4 .dead, e.getD 6 .dead, e.getD 7 .dead, h with
    | (.lst 1 b0n b0), (.ptr 0 0 0 0), (.v (.int .i64 i4)), (.lst 2 l6n l6), (.v (.int .i64 k7)), [⟨[(.agg [(.lst 1 obj0_0_0n obj0_0_0), (.v (.string obj0_0_1)), (.v (.int .i64 obj0_0_2)), (.v (.int .i64 obj0_0_3))])], 0, 0, true, true, 27, 4, none⟩, ⟨[(.agg [(.lst 1 obj1_0_0n obj1_0_0), (.v (.string obj1_0_1)), (.v (.int .i64 obj1_0_2)), (.v (.int .i64 obj1_0_3))])], 0, 0, true, true, 27, 4, none⟩] => optK (llaw23_TokenSmall_1 (.s0 b0n b0 i4 l6n l6 k7 obj0_0_0n obj0_0_0 obj0_0_1 obj0_0_2 obj0_0_3 obj1_0_0n obj1_0_0 obj1_0_1 obj1_0_2 obj1_0_3)) (Tlaw23_TokenSmall_1 k)
    | _, _, _, _, _, _ => none)
  | false => none⟩

def cllaw23_TokenSmall_1 : List Tmp := [1, 2, 5, 8, 9, 10, 11, 12, 13, 14, 15, 16, 17, 18, 19, 20, 21, 22, 23, 24, 25, 26, 27, 28, 29, 30, 31, 32, 33, 34, 35, 36, 37, 38, 39, 40, 41, 42, 43, 44, 45, 46, 47, 48, 49, 50, 51, 52, 53, 54, 55, 56, 57, 58, 59, 60, 61, 62, 63, 64, 65, 66, 67, 68, 69, 70, 71, 72, 73, 74, 75, 76, 77, 78, 79, 80, 81, 82, 83, 84, 85, 86, 87, 88, 89, 90, 91, 92, 93, 94, 95, 96, 97, 98, 99, 100, 101, 102, 103, 104, 105, 106, 107, 108, 109, 110, 111, 112]
def clolaw23_TokenSmall_1 : List Tmp := [1, 5, 6, 7, 8, 9, 10, 11, 12, 13, 14, 15, 16, 17, 18, 19, 20, 21, 22, 23, 24, 25, 26, 27, 28, 29, 30, 31, 32, 33, 34, 35, 36, 37, 38, 39, 40, 41, 42, 43, 44, 45, 46, 47, 48, 49, 50, 51, 52, 53, 54, 55, 56, 57, 58, 59, 60, 61, 62, 63, 64, 65, 66, 67, 68, 69, 70, 71, 72, 73, 74, 75, 76, 77, 78, 79, 80, 81, 82, 83, 84, 85, 86, 87, 88, 89, 90, 91, 92, 93, 94, 95, 96, 97, 98, 99, 100, 101, 102, 103, 104, 105, 106, 107, 108, 109, 110, 111, 112]

noncomputable def Rlaw23_TokenSmall_1 {β : Type} (K : PureK) (d : Olaw23_TokenSmall_1 → Option β) (r : Slaw23_TokenSmall_1 → Option β) : Slaw23_TokenSmall_1 → Option β
  | .s0 b0n b0 i4 l6n l6 k7 obj0_0_0n obj0_0_0 obj0_0_1 obj0_0_2 obj0_0_3 obj1_0_0n obj1_0_0 obj1_0_1 obj1_0_2 obj1_0_3 =>
    br (decide (k7 < ((l6.length : Nat) : Int)))
      (optK (br (decide (0 ≤ k7))
          (br (decide (k7 < ((l6.length : Nat) : Int)))
            (optK l6[k7.toNat]? fun wv2 =>
            Ab.asAgg wv2 2 fun wg3 =>
            Ab.asInt (wg3 0) .i64 fun wn4 =>
            Ab.asLst (wg3 1) 1 fun wb5 wr5 =>
            br (decide (wn4 < 1))
              (some (bv true))
              (br (decide (0 ≤ k7))
                (br (decide (k7 < ((l6.length : Nat) : Int)))
                  (optK l6[k7.toNat]? fun wv6 =>
                  Ab.asAgg wv6 2 fun wg7 =>
                  Ab.asInt (wg7 0) .i64 fun wn8 =>
                  Ab.asLst (wg7 1) 1 fun wb9 wr9 =>
                  br (decide (wn8 > 4))
                    (some (bv true))
                    (br (decide (0 ≤ k7))
                      (br (decide (k7 < ((l6.length : Nat) : Int)))
                        (optK l6[k7.toNat]? fun wv10 =>
                        Ab.asAgg wv10 2 fun wg11 =>
                        Ab.asInt (wg11 0) .i64 fun wn12 =>
                        Ab.asLst (wg11 1) 1 fun wb13 wr13 =>
                        br (wn12 == 1)
                          (br (decide (0 ≤ k7))
                            (br (decide (k7 < ((l6.length : Nat) : Int)))
                              (optK l6[k7.toNat]? fun wv14 =>
                              Ab.asAgg wv14 2 fun wg15 =>
                              Ab.asInt (wg15 0) .i64 fun wn16 =>
                              Ab.asLst (wg15 1) 1 fun wb17 wr17 =>
                              br (!true == ((((wr17.length : Nat) : Int)).tmod 2 == 1))
                                (some (bv true))
                                (br (decide (0 ≤ k7))
                                  (br (decide (k7 < ((l6.length : Nat) : Int)))
                                    (optK l6[k7.toNat]? fun wv18 =>
                                    Ab.asAgg wv18 2 fun wg19 =>
                                    Ab.asInt (wg19 0) .i64 fun wn20 =>
                                    Ab.asLst (wg19 1) 1 fun wb21 wr21 =>
                                    some (bv (decide (((wr21.length : Nat) : Int) > 9))))
                                    (none))
                                  (none)))
                              (none))
                            (none))
                          (br (decide (0 ≤ k7))
                            (br (decide (k7 < ((l6.length : Nat) : Int)))
                              (optK l6[k7.toNat]? fun wv22 =>
                              Ab.asAgg wv22 2 fun wg23 =>
                              Ab.asInt (wg23 0) .i64 fun wn24 =>
                              Ab.asLst (wg23 1) 1 fun wb25 wr25 =>
                              br (decide (0 ≤ k7))
                                (br (decide (k7 < ((l6.length : Nat) : Int)))
                                  (optK l6[k7.toNat]? fun wv26 =>
                                  Ab.asAgg wv26 2 fun wg27 =>
                                  Ab.asInt (wg27 0) .i64 fun wn28 =>
                                  Ab.asLst (wg27 1) 1 fun wb29 wr29 =>
                                  br (!(wn24 == 4) == ((((wr29.length : Nat) : Int)).tmod 2 == 1))
                                    (some (bv true))
                                    (br (decide (0 ≤ k7))
                                      (br (decide (k7 < ((l6.length : Nat) : Int)))
                                        (optK l6[k7.toNat]? fun wv30 =>
                                        Ab.asAgg wv30 2 fun wg31 =>
                                        Ab.asInt (wg31 0) .i64 fun wn32 =>
                                        Ab.asLst (wg31 1) 1 fun wb33 wr33 =>
                                        some (bv (decide (((wr33.length : Nat) : Int) > 9))))
                                        (none))
                                      (none)))
                                  (none))
                                (none))
                              (none))
                            (none)))
                        (none))
                      (none)))
                  (none))
                (none)))
            (none))
          (none)) fun wv1 =>
      Ab.asBool wv1 fun wb34 =>
      br wb34
        (d (.x0 b0n b0 false i4 obj0_0_0n obj0_0_0 obj0_0_1 obj0_0_2 obj0_0_3 obj1_0_0n obj1_0_0 obj1_0_1 obj1_0_2 obj1_0_3))
        (r (.s0 b0n b0 i4 l6n l6 (w64 (k7 + 1)) obj0_0_0n obj0_0_0 obj0_0_1 obj0_0_2 obj0_0_3 obj1_0_0n obj1_0_0 obj1_0_1 obj1_0_2 obj1_0_3)))
      (d (.x1 b0n b0 i4 obj0_0_0n obj0_0_0 obj0_0_1 obj0_0_2 obj0_0_3 obj1_0_0n obj1_0_0 obj1_0_1 obj1_0_2 obj1_0_3))
theorem roundlaw23_TokenSmall_1 (K : PureK) {β : Type} (r : Env → Heap → Option β) (k : Ex → Env → Heap → Option β) (s : Slaw23_TokenSmall_1) : tellOne X K 0 5 1 [(2, 1, 0), (3, 1, 0), (4, 1, 0)] 2 cllaw23_TokenSmall_1 clolaw23_TokenSmall_1 r k (Elaw23_TokenSmall_1 s) (Hlaw23_TokenSmall_1 s) = Rlaw23_TokenSmall_1 K (Tlaw23_TokenSmall_1 k) (fun s => r (Elaw23_TokenSmall_1 s) (Hlaw23_TokenSmall_1 s)) s := by
  cases s <;> kernel_rfl
theorem Olaw23_TokenSmall_1.bind_k {β γ : Type} (o : Olaw23_TokenSmall_1) (c0 : Bool → (List AV) → Bool → Int → Bool → (List AV) → ByteArray → Int → Int → Bool → (List AV) → ByteArray → Int → Int → Option β) (c1 : Bool → (List AV) → Int → Bool → (List AV) → ByteArray → Int → Int → Bool → (List AV) → ByteArray → Int → Int → Option β) (φ : β → Option γ) : (Olaw23_TokenSmall_1.k o c0 c1).bind φ = Olaw23_TokenSmall_1.k o (fun b0n b0 t2 i4 obj0_0_0n obj0_0_0 obj0_0_1 obj0_0_2 obj0_0_3 obj1_0_0n obj1_0_0 obj1_0_1 obj1_0_2 obj1_0_3 => (c0 b0n b0 t2 i4 obj0_0_0n obj0_0_0 obj0_0_1 obj0_0_2 obj0_0_3 obj1_0_0n obj1_0_0 obj1_0_1 obj1_0_2 obj1_0_3).bind φ) (fun b0n b0 i4 obj0_0_0n obj0_0_0 obj0_0_1 obj0_0_2 obj0_0_3 obj1_0_0n obj1_0_0 obj1_0_1 obj1_0_2 obj1_0_3 => (c1 b0n b0 i4 obj0_0_0n obj0_0_0 obj0_0_1 obj0_0_2 obj0_0_3 obj1_0_0n obj1_0_0 obj1_0_1 obj1_0_2 obj1_0_3).bind φ) := by cases o <;> rfl
theorem natlaw23_TokenSmall_1 (K : PureK) {β γ : Type} (φ : β → Option γ) (d : Olaw23_TokenSmall_1 → Option β) (r : Slaw23_TokenSmall_1 → Option β) (s : Slaw23_TokenSmall_1) : Rlaw23_TokenSmall_1 K (fun o => (d o).bind φ) (fun s => (r s).bind φ) s = (Rlaw23_TokenSmall_1 K d r s).bind φ := by
  cases s <;> simp only [Rlaw23_TokenSmall_1, bind_optK, bind_br, bind_asInt, bind_asBool, bind_asStr, bind_asLst, bind_asAgg, bind_asTup, bind_asBig, bind_asErr, bind_none]
theorem outlaw23_TokenSmall_1 (o : Olaw23_TokenSmall_1) : ∃ x e' h', ∀ {β : Type} (k : Ex → Env → Heap → Option β), Tlaw23_TokenSmall_1 k o = k x e' h' := by cases o <;> exact ⟨_, _, _, fun _ => rfl⟩
theorem oklaw23_TokenSmall_1 {K : PureK} (hX : Sound X) (hK : KOk X K) {llaw23_TokenSmall_1 : Slaw23_TokenSmall_1 → Option Olaw23_TokenSmall_1} (hl : ∀ s o, llaw23_TokenSmall_1 s = some o → ∃ m, fuelRec (Rlaw23_TokenSmall_1 K some) m s = some o) (β : Type) (e : Env) (h : Heap) (k : Ex → Env → Heap → Option β) (r : β) (hr : (Flaw23_TokenSmall_1 llaw23_TokenSmall_1).run e h k = some r) : ∃ x e' h', k x e' h' = some r ∧ CodeAt X (.loop (loopBody (X).P 5 1)) e h x e' h' := by
  obtain ⟨fn, c, hin⟩ := loopIn_of (X := X) (f := 5) (i := 1) (key := 14) (by kernel_rfl)
  simp only [Flaw23_TokenSmall_1] at hr
  split at hr
  · rename_i hlen
    have hlen := Nat.eq_of_beq_eq_true hlen
    split at hr
    · rename_i q0 q3 q4 q6 q7
      obtain ⟨o, ho, hr⟩ := optK_some hr
      refine tell_ok hX (KOk.congr (X := X) (Y := X) rfl rfl hK) hin (E := Elaw23_TokenSmall_1) (H := Hlaw23_TokenSmall_1) (R := fun d r => Rlaw23_TokenSmall_1 K d r) (T := Tlaw23_TokenSmall_1) (ts := [(2, 1, 0), (3, 1, 0), (4, 1, 0)]) (len := 2) (cl := cllaw23_TokenSmall_1) (clo := clolaw23_TokenSmall_1) (roundlaw23_TokenSmall_1 K) (natlaw23_TokenSmall_1 K) outlaw23_TokenSmall_1 (hl _ _ ho) (cl0 := cllaw23_TokenSmall_1) (ts0 := []) ?_ rfl (by kernel_rfl) (by kernel_rfl) hr
      rw [clear_lit e 113 hlen, show clearEnv cllaw23_TokenSmall_1 ((List.range 113).map fun i => e.getD i .dead) = [e.getD 0 .dead, .dead, .dead, e.getD 3 .dead, e.getD 4 .dead, .dead, e.getD 6 .dead, e.getD 7 .dead, .dead, .dead, .dead, .dead, .dead, .dead, .dead, .dead, .dead, .dead, .dead, .dead, .dead, .dead, .dead, .dead, .dead, .dead, .dead, .dead, .dead, .dead, .dead, .dead, .dead, .dead, .dead, .dead, .dead, .dead, .dead, .dead, .dead, .dead, .dead, .dead, .dead, .dead, .dead, .dead, .dead, .dead, .dead, .dead, .dead, .dead, .dead, .dead, .dead, .dead, .dead, .dead, .dead, .dead, .dead, .dead, .dead, .dead, .dead, .dead, .dead, .dead, .dead, .dead, .dead, .dead, .dead, .dead, .dead, .dead, .dead, .dead, .dead, .dead, .dead, .dead, .dead, .dead, .dead, .dead, .dead, .dead, .dead, .dead, .dead, .dead, .dead, .dead, .dead, .dead, .dead, .dead, .dead, .dead, .dead, .dead, .dead, .dead, .dead, .dead, .dead, .dead, .dead, .dead, .dead] from by kernel_rfl]; rw [q0, q3, q4, q6, q7]
      kernel_rfl
    · cases hr
  · cases hr
inductive Slaw23_TokenSmall_0 where
  | s0 (b0n : Bool) (b0 : List AV) (i4 : Int) (obj0_0_1 : ByteArray) (obj0_0_2 : Int) (obj0_0_3 : Int)
  | s1 (b0n : Bool) (b0 : List AV) (i4 : Int) (obj0_0_0n : Bool) (obj0_0_0 : List AV) (obj0_0_1 : ByteArray) (obj0_0_2 : Int) (obj0_0_3 : Int)

inductive Olaw23_TokenSmall_0 where
  | x0 (t2 : Bool) (obj0_0_0n : Bool) (obj0_0_0 : List AV) (obj0_0_1 : ByteArray) (obj0_0_2 : Int) (obj0_0_3 : Int) (obj1_0_0n : Bool) (obj1_0_0 : List AV) (obj1_0_1 : ByteArray) (obj1_0_2 : Int) (obj1_0_3 : Int)
  | x1 (obj0_0_1 : ByteArray) (obj0_0_2 : Int) (obj0_0_3 : Int)
  | x2 (obj0_0_0n : Bool) (obj0_0_0 : List AV) (obj0_0_1 : ByteArray) (obj0_0_2 : Int) (obj0_0_3 : Int)

def Olaw23_TokenSmall_0.k {β : Type} (o : Olaw23_TokenSmall_0) (c0 : Bool → Bool → (List AV) → ByteArray → Int → Int → Bool → (List AV) → ByteArray → Int → Int → Option β) (c1 : ByteArray → Int → Int → Option β) (c2 : Bool → (List AV) → ByteArray → Int → Int → Option β) : Option β := match o with
  | .x0 t2 obj0_0_0n obj0_0_0 obj0_0_1 obj0_0_2 obj0_0_3 obj1_0_0n obj1_0_0 obj1_0_1 obj1_0_2 obj1_0_3 => c0 t2 obj0_0_0n obj0_0_0 obj0_0_1 obj0_0_2 obj0_0_3 obj1_0_0n obj1_0_0 obj1_0_1 obj1_0_2 obj1_0_3
  | .x1 obj0_0_1 obj0_0_2 obj0_0_3 => c1 obj0_0_1 obj0_0_2 obj0_0_3
  | .x2 obj0_0_0n obj0_0_0 obj0_0_1 obj0_0_2 obj0_0_3 => c2 obj0_0_0n obj0_0_0 obj0_0_1 obj0_0_2 obj0_0_3

def Elaw23_TokenSmall_0 : Slaw23_TokenSmall_0 → Env
  | .s0 b0n b0 i4 obj0_0_1 obj0_0_2 obj0_0_3 => [(.lst 1 b0n b0), .dead, .dead, (.ptr 0 0 0 0), (.v (.int .i64 i4)), .dead, .dead, .dead, .dead, .dead, .dead, .dead, .dead, .dead, .dead, .dead, .dead, .dead, .dead, .dead, .dead, .dead, .dead, .dead, .dead, .dead, .dead, .dead, .dead, .dead, .dead, .dead, .dead, .dead, .dead, .dead, .dead, .dead, .dead, .dead, .dead, .dead, .dead, .dead, .dead, .dead, .dead, .dead, .dead, .dead, .dead, .dead, .dead, .dead, .dead, .dead, .dead, .dead, .dead, .dead, .dead, .dead, .dead, .dead, .dead, .dead, .dead, .dead, .dead, .dead, .dead, .dead, .dead, .dead, .dead, .dead, .dead, .dead, .dead, .dead, .dead, .dead, .dead, .dead, .dead, .dead, .dead, .dead, .dead, .dead, .dead, .dead, .dead, .dead, .dead, .dead, .dead, .dead, .dead, .dead, .dead, .dead, .dead, .dead, .dead, .dead, .dead, .dead, .dead, .dead, .dead, .dead, .dead]
  | .s1 b0n b0 i4 obj0_0_0n obj0_0_0 obj0_0_1 obj0_0_2 obj0_0_3 => [(.lst 1 b0n b0), .dead, .dead, (.ptr 0 0 0 0), (.v (.int .i64 i4)), .dead, .dead, .dead, .dead, .dead, .dead, .dead, .dead, .dead, .dead, .dead, .dead, .dead, .dead, .dead, .dead, .dead, .dead, .dead, .dead, .dead, .dead, .dead, .dead, .dead, .dead, .dead, .dead, .dead, .dead, .dead, .dead, .dead, .dead, .dead, .dead, .dead, .dead, .dead, .dead, .dead, .dead, .dead, .dead, .dead, .dead, .dead, .dead, .dead, .dead, .dead, .dead, .dead, .dead, .dead, .dead, .dead, .dead, .dead, .dead, .dead, .dead, .dead, .dead, .dead, .dead, .dead, .dead, .dead, .dead, .dead, .dead, .dead, .dead, .dead, .dead, .dead, .dead, .dead, .dead, .dead, .dead, .dead, .dead, .dead, .dead, .dead, .dead, .dead, .dead, .dead, .dead, .dead, .dead, .dead, .dead, .dead, .dead, .dead, .dead, .dead, .dead, .dead, .dead, .dead, .dead, .dead, .dead]

def Hlaw23_TokenSmall_0 : Slaw23_TokenSmall_0 → Heap
  | .s0 b0n b0 i4 obj0_0_1 obj0_0_2 obj0_0_3 => [⟨[(.agg [(.lst 1 true []), (.v (.string obj0_0_1)), (.v (.int .i64 obj0_0_2)), (.v (.int .i64 obj0_0_3))])], 0, 0, true, true, 27, 4, none⟩]
  | .s1 b0n b0 i4 obj0_0_0n obj0_0_0 obj0_0_1 obj0_0_2 obj0_0_3 => [⟨[(.agg [(.lst 1 obj0_0_0n obj0_0_0), (.v (.string obj0_0_1)), (.v (.int .i64 obj0_0_2)), (.v (.int .i64 obj0_0_3))])], 0, 0, true, true, 27, 4, none⟩]

def Tlaw23_TokenSmall_0 {β : Type} (k : Ex → Env → Heap → Option β) (o : Olaw23_TokenSmall_0) : Option β := Olaw23_TokenSmall_0.k o (fun t2 obj0_0_0n obj0_0_0 obj0_0_1 obj0_0_2 obj0_0_3 obj1_0_0n obj1_0_0 obj1_0_1 obj1_0_2 obj1_0_3 => k .ret [.dead, .dead, (.v (.bool t2)), .dead, .dead, .dead, .dead, .dead, .dead, .dead, .dead, .dead, .dead, .dead, .dead, .dead, .dead, .dead, .dead, .dead, .dead, .dead, .dead, .dead, .dead, .dead, .dead, .dead, .dead, .dead, .dead, .dead, .dead, .dead, .dead, .dead, .dead, .dead, .dead, .dead, .dead, .dead, .dead, .dead, .dead, .dead, .dead, .dead, .dead, .dead, .dead, .dead, .dead, .dead, .dead, .dead, .dead, .dead, .dead, .dead, .dead, .dead, .dead, .dead, .dead, .dead, .dead, .dead, .dead, .dead, .dead, .dead, .dead, .dead, .dead, .dead, .dead, .dead, .dead, .dead, .dead, .dead, .dead, .dead, .dead, .dead, .dead, .dead, .dead, .dead, .dead, .dead, .dead, .dead, .dead, .dead, .dead, .dead, .dead, .dead, .dead, .dead, .dead, .dead, .dead, .dead, .dead, .dead, .dead, .dead, .dead, .dead, .dead] [⟨[(.agg [(.lst 1 obj0_0_0n obj0_0_0), (.v (.string obj0_0_1)), (.v (.int .i64 obj0_0_2)), (.v (.int .i64 obj0_0_3))])], 0, 0, true, true, 27, 4, none⟩, ⟨[(.agg [(.lst 1 obj1_0_0n obj1_0_0), (.v (.string obj1_0_1)), (.v (.int .i64 obj1_0_2)), (.v (.int .i64 obj1_0_3))])], 0, 0, true, true, 27, 4, none⟩]) (fun obj0_0_1 obj0_0_2 obj0_0_3 => k (.exit 0) [.dead, .dead, .dead, .dead, .dead, .dead, .dead, .dead, .dead, .dead, .dead, .dead, .dead, .dead, .dead, .dead, .dead, .dead, .dead, .dead, .dead, .dead, .dead, .dead, .dead, .dead, .dead, .dead, .dead, .dead, .dead, .dead, .dead, .dead, .dead, .dead, .dead, .dead, .dead, .dead, .dead, .dead, .dead, .dead, .dead, .dead, .dead, .dead, .dead, .dead, .dead, .dead, .dead, .dead, .dead, .dead, .dead, .dead, .dead, .dead, .dead, .dead, .dead, .dead, .dead, .dead, .dead, .dead, .dead, .dead, .dead, .dead, .dead, .dead, .dead, .dead, .dead, .dead, .dead, .dead, .dead, .dead, .dead, .dead, .dead, .dead, .dead, .dead, .dead, .dead, .dead, .dead, .dead, .dead, .dead, .dead, .dead, .dead, .dead, .dead, .dead, .dead, .dead, .dead, .dead, .dead, .dead, .dead, .dead, .dead, .dead, .dead, .dead] [⟨[(.agg [(.lst 1 true []), (.v (.string obj0_0_1)), (.v (.int .i64 obj0_0_2)), (.v (.int .i64 obj0_0_3))])], 0, 0, true, true, 27, 4, none⟩]) (fun obj0_0_0n obj0_0_0 obj0_0_1 obj0_0_2 obj0_0_3 => k (.exit 0) [.dead, .dead, .dead, .dead, .dead, .dead, .dead, .dead, .dead, .dead, .dead, .dead, .dead, .dead, .dead, .dead, .dead, .dead, .dead, .dead, .dead, .dead, .dead, .dead, .dead, .dead, .dead, .dead, .dead, .dead, .dead, .dead, .dead, .dead, .dead, .dead, .dead, .dead, .dead, .dead, .dead, .dead, .dead, .dead, .dead, .dead, .dead, .dead, .dead, .dead, .dead, .dead, .dead, .dead, .dead, .dead, .dead, .dead, .dead, .dead, .dead, .dead, .dead, .dead, .dead, .dead, .dead, .dead, .dead, .dead, .dead, .dead, .dead, .dead, .dead, .dead, .dead, .dead, .dead, .dead, .dead, .dead, .dead, .dead, .dead, .dead, .dead, .dead, .dead, .dead, .dead, .dead, .dead, .dead, .dead, .dead, .dead, .dead, .dead, .dead, .dead, .dead, .dead, .dead, .dead, .dead, .dead, .dead, .dead, .dead, .dead, .dead, .dead] [⟨[(.agg [(.lst 1 obj0_0_0n obj0_0_0), (.v (.string obj0_0_1)), (.v (.int .i64 obj0_0_2)), (.v (.int .i64 obj0_0_3))])], 0, 0, true, true, 27, 4, none⟩])

def Flaw23_TokenSmall_0 (llaw23_TokenSmall_0 : Slaw23_TokenSmall_0 → Option Olaw23_TokenSmall_0) : LoopF := ⟨fun e h k => match Nat.beq e.length 113 with
  | true => (match e.getD 0 .dead, e.getD 3 .dead, e.getD 4 .dead, h with
    | (.lst 1 b0n b0), (.ptr 0 0 0 0), (.v (.int .i64 i4)), [⟨[(.agg [(.lst 1 true []), (.v (.string obj0_0_1)), (.v (.int .i64 obj0_0_2)), (.v (.int .i64 obj0_0_3))])], 0, 0, true, true, 27, 4, none⟩] => optK (llaw23_TokenSmall_0 (.s0 b0n b0 i4 obj0_0_1 obj0_0_2 obj0_0_3)) (Tlaw23_TokenSmall_0 k)
    | _, _, _, _ => none)
  | false => none⟩

def cllaw23_TokenSmall_0 : List Tmp := [1, 2, 5, 6, 7, 8, 9, 10, 11, 12, 13, 14, 15, 16, 17, 18, 19, 20, 21, 22, 23, 24, 25, 26, 27, 28, 29, 30, 31, 32, 33, 34, 35, 36, 37, 38, 39, 40, 41, 42, 43, 44, 45, 46, 47, 48, 49, 50, 51, 52, 53, 54, 55, 56, 57, 58, 59, 60, 61, 62, 63, 64, 65, 66, 67, 68, 69, 70, 71, 72, 73, 74, 75, 76, 77, 78, 79, 80, 81, 82, 83, 84, 85, 86, 87, 88, 89, 90, 91, 92, 93, 94, 95, 96, 97, 98, 99, 100, 101, 102, 103, 104, 105, 106, 107, 108, 109, 110, 111, 112]
def clolaw23_TokenSmall_0 : List Tmp := [0, 1, 3, 4, 5, 6, 7, 8, 9, 10, 11, 12, 13, 14, 15, 16, 17, 18, 19, 20, 21, 22, 23, 24, 25, 26, 27, 28, 29, 30, 31, 32, 33, 34, 35, 36, 37, 38, 39, 40, 41, 42, 43, 44, 45, 46, 47, 48, 49, 50, 51, 52, 53, 54, 55, 56, 57, 58, 59, 60, 61, 62, 63, 64, 65, 66, 67, 68, 69, 70, 71, 72, 73, 74, 75, 76, 77, 78, 79, 80, 81, 82, 83, 84, 85, 86, 87, 88, 89, 90, 91, 92, 93, 94, 95, 96, 97, 98, 99, 100, 101, 102, 103, 104, 105, 106, 107, 108, 109, 110, 111, 112]

noncomputable def Rlaw23_TokenSmall_0 {β : Type} (K : PureK) (llaw23_TokenSmall_1 : Slaw23_TokenSmall_1 → Option Olaw23_TokenSmall_1) (d : Olaw23_TokenSmall_0 → Option β) (r : Slaw23_TokenSmall_0 → Option β) : Slaw23_TokenSmall_0 → Option β
  | .s0 b0n b0 i4 obj0_0_1 obj0_0_2 obj0_0_3 =>
    br (decide (i4 < ((b0.length : Nat) : Int)))
      (br (decide (0 ≤ i4))
        (br (decide (i4 ≤ if w64 (i4 + 100) < ((b0.length : Nat) : Int) then w64 (i4 + 100) else ((b0.length : Nat) : Int)))
          (br (decide ((if w64 (i4 + 100) < ((b0.length : Nat) : Int) then w64 (i4 + 100) else ((b0.length : Nat) : Int)) ≤ ((b0.length : Nat) : Int)))
            (optK (K f_token_Feed [AV.agg [AV.lst 1 true [], sv obj0_0_1, iv obj0_0_2, iv obj0_0_3], AV.lst 1 b0n (List.drop i4.toNat (List.take (if w64 (i4 + 100) < ((b0.length : Nat) : Int) then w64 (i4 + 100) else ((b0.length : Nat) : Int)).toNat b0))]) fun wv13 =>
            Ab.asTup wv13 2 fun wg14 =>
            Ab.asAgg (wg14 0) 4 fun wg15 =>
            Ab.asLst (wg15 0) 1 fun wb16 wr16 =>
            Ab.asStr (wg15 1) fun ws17 =>
            Ab.asInt (wg15 2) .i64 fun wn18 =>
            Ab.asInt (wg15 3) .i64 fun wn19 =>
            Ab.asLst (wg14 1) 2 fun wb20 wr20 =>
            optK (optK (K f_token_Right [AV.agg [AV.lst 1 wb16 wr16, sv ws17, iv wn18, iv wn19]]) fun wv22 =>
              Ab.asBool wv22 fun wb23 =>
              br (!wb23)
                (some (bv true))
                (br (wn18 == 0)
                  (br (decide (((ws17.size : Nat) : Int) > 400))
                    (some (bv true))
                    (br (decide (((ws17.size : Nat) : Int) > 2000))
                      (some (bv true))
                      (some (bv (decide (((wr16.length : Nat) : Int) > 8))))))
                  (br (decide (((ws17.size : Nat) : Int) > 2000))
                    (some (bv true))
                    (some (bv (decide (((wr16.length : Nat) : Int) > 8))))))) fun wv21 =>
            Ab.asBool wv21 fun wb24 =>
            br wb24
              (d (.x0 false wb16 wr16 ws17 wn18 wn19 wb16 wr16 ws17 wn18 wn19))
              (optK (llaw23_TokenSmall_1 (Slaw23_TokenSmall_1.s0 b0n b0 i4 wb20 wr20 0 wb16 wr16 ws17 wn18 wn19 wb16 wr16 ws17 wn18 wn19)) fun wo25 => Olaw23_TokenSmall_1.k wo25
                (fun (b0n_26 : Bool) (b0_26 : List AV) (t2_26 : Bool) (i4_26 : Int) (obj0_0_0n_26 : Bool) (obj0_0_0_26 : List AV) (obj0_0_1_26 : ByteArray) (obj0_0_2_26 : Int) (obj0_0_3_26 : Int) (obj1_0_0n_26 : Bool) (obj1_0_0_26 : List AV) (obj1_0_1_26 : ByteArray) (obj1_0_2_26 : Int) (obj1_0_3_26 : Int) => d (.x0 t2_26 obj0_0_0n_26 obj0_0_0_26 obj0_0_1_26 obj0_0_2_26 obj0_0_3_26 obj1_0_0n_26 obj1_0_0_26 obj1_0_1_26 obj1_0_2_26 obj1_0_3_26))
                (fun (b0n_27 : Bool) (b0_27 : List AV) (i4_27 : Int) (obj0_0_0n_27 : Bool) (obj0_0_0_27 : List AV) (obj0_0_1_27 : ByteArray) (obj0_0_2_27 : Int) (obj0_0_3_27 : Int) (obj1_0_0n_27 : Bool) (obj1_0_0_27 : List AV) (obj1_0_1_27 : ByteArray) (obj1_0_2_27 : Int) (obj1_0_3_27 : Int) => r (.s1 b0n_27 b0_27 (w64 (i4_27 + 100)) obj0_0_0n_27 obj0_0_0_27 obj0_0_1_27 obj0_0_2_27 obj0_0_3_27))))
            (none))
          (none))
        (none))
      (d (.x1 obj0_0_1 obj0_0_2 obj0_0_3))
  | .s1 b0n b0 i4 obj0_0_0n obj0_0_0 obj0_0_1 obj0_0_2 obj0_0_3 =>
    br (decide (i4 < ((b0.length : Nat) : Int)))
      (br (decide (0 ≤ i4))
        (br (decide (i4 ≤ if w64 (i4 + 100) < ((b0.length : Nat) : Int) then w64 (i4 + 100) else ((b0.length : Nat) : Int)))
          (br (decide ((if w64 (i4 + 100) < ((b0.length : Nat) : Int) then w64 (i4 + 100) else ((b0.length : Nat) : Int)) ≤ ((b0.length : Nat) : Int)))
            (optK (K f_token_Feed [AV.agg [AV.lst 1 obj0_0_0n obj0_0_0, sv obj0_0_1, iv obj0_0_2, iv obj0_0_3], AV.lst 1 b0n (List.drop i4.toNat (List.take (if w64 (i4 + 100) < ((b0.length : Nat) : Int) then w64 (i4 + 100) else ((b0.length : Nat) : Int)).toNat b0))]) fun wv28 =>
            Ab.asTup wv28 2 fun wg29 =>
            Ab.asAgg (wg29 0) 4 fun wg30 =>
            Ab.asLst (wg30 0) 1 fun wb31 wr31 =>
            Ab.asStr (wg30 1) fun ws32 =>
            Ab.asInt (wg30 2) .i64 fun wn33 =>
            Ab.asInt (wg30 3) .i64 fun wn34 =>
            Ab.asLst (wg29 1) 2 fun wb35 wr35 =>
            optK (optK (K f_token_Right [AV.agg [AV.lst 1 wb31 wr31, sv ws32, iv wn33, iv wn34]]) fun wv37 =>
              Ab.asBool wv37 fun wb38 =>
              br (!wb38)
                (some (bv true))
                (br (wn33 == 0)
                  (br (decide (((ws32.size : Nat) : Int) > 400))
                    (some (bv true))
                    (br (decide (((ws32.size : Nat) : Int) > 2000))
                      (some (bv true))
                      (some (bv (decide (((wr31.length : Nat) : Int) > 8))))))
                  (br (decide (((ws32.size : Nat) : Int) > 2000))
                    (some (bv true))
                    (some (bv (decide (((wr31.length : Nat) : Int) > 8))))))) fun wv36 =>
            Ab.asBool wv36 fun wb39 =>
            br wb39
              (d (.x0 false wb31 wr31 ws32 wn33 wn34 wb31 wr31 ws32 wn33 wn34))
              (optK (llaw23_TokenSmall_1 (Slaw23_TokenSmall_1.s0 b0n b0 i4 wb35 wr35 0 wb31 wr31 ws32 wn33 wn34 wb31 wr31 ws32 wn33 wn34)) fun wo40 => Olaw23_TokenSmall_1.k wo40
                (fun (b0n_41 : Bool) (b0_41 : List AV) (t2_41 : Bool) (i4_41 : Int) (obj0_0_0n_41 : Bool) (obj0_0_0_41 : List AV) (obj0_0_1_41 : ByteArray) (obj0_0_2_41 : Int) (obj0_0_3_41 : Int) (obj1_0_0n_41 : Bool) (obj1_0_0_41 : List AV) (obj1_0_1_41 : ByteArray) (obj1_0_2_41 : Int) (obj1_0_3_41 : Int) => d (.x0 t2_41 obj0_0_0n_41 obj0_0_0_41 obj0_0_1_41 obj0_0_2_41 obj0_0_3_41 obj1_0_0n_41 obj1_0_0_41 obj1_0_1_41 obj1_0_2_41 obj1_0_3_41))
                (fun (b0n_42 : Bool) (b0_42 : List AV) (i4_42 : Int) (obj0_0_0n_42 : Bool) (obj0_0_0_42 : List AV) (obj0_0_1_42 : ByteArray) (obj0_0_2_42 : Int) (obj0_0_3_42 : Int) (obj1_0_0n_42 : Bool) (obj1_0_0_42 : List AV) (obj1_0_1_42 : ByteArray) (obj1_0_2_42 : Int) (obj1_0_3_42 : Int) => r (.s1 b0n_42 b0_42 (w64 (i4_42 + 100)) obj0_0_0n_42 obj0_0_0_42 obj0_0_1_42 obj0_0_2_42 obj0_0_3_42))))
            (none))
          (none))
        (none))
      (d (.x2 obj0_0_0n obj0_0_0 obj0_0_1 obj0_0_2 obj0_0_3))
theorem roundlaw23_TokenSmall_0 (K : PureK) (llaw23_TokenSmall_1 : Slaw23_TokenSmall_1 → Option Olaw23_TokenSmall_1) {β : Type} (r : Env → Heap → Option β) (k : Ex → Env → Heap → Option β) (s : Slaw23_TokenSmall_0) : tellOne (addLp X 5 14 (Flaw23_TokenSmall_1 llaw23_TokenSmall_1)) K 0 5 0 [(1, 1, 0), (2, 1, 0), (3, 1, 0)] 1 cllaw23_TokenSmall_0 clolaw23_TokenSmall_0 r k (Elaw23_TokenSmall_0 s) (Hlaw23_TokenSmall_0 s) = Rlaw23_TokenSmall_0 K llaw23_TokenSmall_1 (Tlaw23_TokenSmall_0 k) (fun s => r (Elaw23_TokenSmall_0 s) (Hlaw23_TokenSmall_0 s)) s := by
  cases s <;> kernel_rfl
theorem Olaw23_TokenSmall_0.bind_k {β γ : Type} (o : Olaw23_TokenSmall_0) (c0 : Bool → Bool → (List AV) → ByteArray → Int → Int → Bool → (List AV) → ByteArray → Int → Int → Option β) (c1 : ByteArray → Int → Int → Option β) (c2 : Bool → (List AV) → ByteArray → Int → Int → Option β) (φ : β → Option γ) : (Olaw23_TokenSmall_0.k o c0 c1 c2).bind φ = Olaw23_TokenSmall_0.k o (fun t2 obj0_0_0n obj0_0_0 obj0_0_1 obj0_0_2 obj0_0_3 obj1_0_0n obj1_0_0 obj1_0_1 obj1_0_2 obj1_0_3 => (c0 t2 obj0_0_0n obj0_0_0 obj0_0_1 obj0_0_2 obj0_0_3 obj1_0_0n obj1_0_0 obj1_0_1 obj1_0_2 obj1_0_3).bind φ) (fun obj0_0_1 obj0_0_2 obj0_0_3 => (c1 obj0_0_1 obj0_0_2 obj0_0_3).bind φ) (fun obj0_0_0n obj0_0_0 obj0_0_1 obj0_0_2 obj0_0_3 => (c2 obj0_0_0n obj0_0_0 obj0_0_1 obj0_0_2 obj0_0_3).bind φ) := by cases o <;> rfl
theorem natlaw23_TokenSmall_0 (K : PureK) (llaw23_TokenSmall_1 : Slaw23_TokenSmall_1 → Option Olaw23_TokenSmall_1) {β γ : Type} (φ : β → Option γ) (d : Olaw23_TokenSmall_0 → Option β) (r : Slaw23_TokenSmall_0 → Option β) (s : Slaw23_TokenSmall_0) : Rlaw23_TokenSmall_0 K llaw23_TokenSmall_1 (fun o => (d o).bind φ) (fun s => (r s).bind φ) s = (Rlaw23_TokenSmall_0 K llaw23_TokenSmall_1 d r s).bind φ := by
  cases s <;> simp only [Rlaw23_TokenSmall_0, bind_optK, bind_br, bind_asInt, bind_asBool, bind_asStr, bind_asLst, bind_asAgg, bind_asTup, bind_asBig, bind_asErr, bind_none, Olaw23_TokenSmall_1.bind_k]
theorem outlaw23_TokenSmall_0 (o : Olaw23_TokenSmall_0) : ∃ x e' h', ∀ {β : Type} (k : Ex → Env → Heap → Option β), Tlaw23_TokenSmall_0 k o = k x e' h' := by cases o <;> exact ⟨_, _, _, fun _ => rfl⟩
theorem oklaw23_TokenSmall_0 {K : PureK} (llaw23_TokenSmall_1 : Slaw23_TokenSmall_1 → Option Olaw23_TokenSmall_1) (hX : Sound (addLp X 5 14 (Flaw23_TokenSmall_1 llaw23_TokenSmall_1))) (hK : KOk X K) {llaw23_TokenSmall_0 : Slaw23_TokenSmall_0 → Option Olaw23_TokenSmall_0} (hl : ∀ s o, llaw23_TokenSmall_0 s = some o → ∃ m, fuelRec (Rlaw23_TokenSmall_0 K llaw23_TokenSmall_1 some) m s = some o) (β : Type) (e : Env) (h : Heap) (k : Ex → Env → Heap → Option β) (r : β) (hr : (Flaw23_TokenSmall_0 llaw23_TokenSmall_0).run e h k = some r) : ∃ x e' h', k x e' h' = some r ∧ CodeAt (addLp X 5 14 (Flaw23_TokenSmall_1 llaw23_TokenSmall_1)) (.loop (loopBody ((addLp X 5 14 (Flaw23_TokenSmall_1 llaw23_TokenSmall_1))).P 5 0)) e h x e' h' := by
  obtain ⟨fn, c, hin⟩ := loopIn_of (X := (addLp X 5 14 (Flaw23_TokenSmall_1 llaw23_TokenSmall_1))) (f := 5) (i := 0) (key := 7) (by kernel_rfl)
  simp only [Flaw23_TokenSmall_0] at hr
  split at hr
  · rename_i hlen
    have hlen := Nat.eq_of_beq_eq_true hlen
    split at hr
    · rename_i q0 q3 q4
      obtain ⟨o, ho, hr⟩ := optK_some hr
      refine tell_ok hX (KOk.congr (X := X) (Y := (addLp X 5 14 (Flaw23_TokenSmall_1 llaw23_TokenSmall_1))) rfl rfl hK) hin (E := Elaw23_TokenSmall_0) (H := Hlaw23_TokenSmall_0) (R := fun d r => Rlaw23_TokenSmall_0 K llaw23_TokenSmall_1 d r) (T := Tlaw23_TokenSmall_0) (ts := [(1, 1, 0), (2, 1, 0), (3, 1, 0)]) (len := 1) (cl := cllaw23_TokenSmall_0) (clo := clolaw23_TokenSmall_0) (roundlaw23_TokenSmall_0 K llaw23_TokenSmall_1) (natlaw23_TokenSmall_0 K llaw23_TokenSmall_1) outlaw23_TokenSmall_0 (hl _ _ ho) (cl0 := cllaw23_TokenSmall_0) (ts0 := []) ?_ rfl (by kernel_rfl) (by kernel_rfl) hr
      rw [clear_lit e 113 hlen, show clearEnv cllaw23_TokenSmall_0 ((List.range 113).map fun i => e.getD i .dead) = [e.getD 0 .dead, .dead, .dead, e.getD 3 .dead, e.getD 4 .dead, .dead, .dead, .dead, .dead, .dead, .dead, .dead, .dead, .dead, .dead, .dead, .dead, .dead, .dead, .dead, .dead, .dead, .dead, .dead, .dead, .dead, .dead, .dead, .dead, .dead, .dead, .dead, .dead, .dead, .dead, .dead, .dead, .dead, .dead, .dead, .dead, .dead, .dead, .dead, .dead, .dead, .dead, .dead, .dead, .dead, .dead, .dead, .dead, .dead, .dead, .dead, .dead, .dead, .dead, .dead, .dead, .dead, .dead, .dead, .dead, .dead, .dead, .dead, .dead, .dead, .dead, .dead, .dead, .dead, .dead, .dead, .dead, .dead, .dead, .dead, .dead, .dead, .dead, .dead, .dead, .dead, .dead, .dead, .dead, .dead, .dead, .dead, .dead, .dead, .dead, .dead, .dead, .dead, .dead, .dead, .dead, .dead, .dead, .dead, .dead, .dead, .dead, .dead, .dead, .dead, .dead, .dead, .dead] from by kernel_rfl]; rw [q0, q3, q4]
      kernel_rfl
    · cases hr
  · cases hr
noncomputable def Rlaw23_TokenSmall (K : PureK) (llaw23_TokenSmall_0 : Slaw23_TokenSmall_0 → Option Olaw23_TokenSmall_0) (b0n : Bool) (b0 : List AV) : Option AV :=
  optK (K f_law23_alive []) fun wv3 =>
    Ab.asBool wv3 fun wb4 =>
    br (!wb4)
      (some (bv false))
      (br (decide (((b0.length : Nat) : Int) > 5000))
        (some (bv true))
        (optK (llaw23_TokenSmall_0 (Slaw23_TokenSmall_0.s0 b0n b0 0 ({ data := #[] } : ByteArray) 0 0)) fun wo5 => Olaw23_TokenSmall_0.k wo5
          (fun (t2_6 : Bool) (obj0_0_0n_6 : Bool) (obj0_0_0_6 : List AV) (obj0_0_1_6 : ByteArray) (obj0_0_2_6 : Int) (obj0_0_3_6 : Int) (obj1_0_0n_6 : Bool) (obj1_0_0_6 : List AV) (obj1_0_1_6 : ByteArray) (obj1_0_2_6 : Int) (obj1_0_3_6 : Int) => some (bv t2_6))
          (fun (obj0_0_1_7 : ByteArray) (obj0_0_2_7 : Int) (obj0_0_3_7 : Int) => some (bv true))
          (fun (obj0_0_0n_8 : Bool) (obj0_0_0_8 : List AV) (obj0_0_1_8 : ByteArray) (obj0_0_2_8 : Int) (obj0_0_3_8 : Int) => some (bv true))))
theorem toplaw23_TokenSmall (K : PureK) (llaw23_TokenSmall_1 : Slaw23_TokenSmall_1 → Option Olaw23_TokenSmall_1) (llaw23_TokenSmall_0 : Slaw23_TokenSmall_0 → Option Olaw23_TokenSmall_0) (b0n : Bool) (b0 : List AV) : topK (addLp (addLp X 5 14 (Flaw23_TokenSmall_1 llaw23_TokenSmall_1)) 5 7 (Flaw23_TokenSmall_0 llaw23_TokenSmall_0)) K 0 f_law23_TokenSmall [(.lst 1 b0n b0)] = Rlaw23_TokenSmall K llaw23_TokenSmall_0 b0n b0 := by kernel_rfl
theorem pclaw23_TokenSmall {K : PureK} (hK : KOk X K) {llaw23_TokenSmall_1 : Slaw23_TokenSmall_1 → Option Olaw23_TokenSmall_1} {llaw23_TokenSmall_0 : Slaw23_TokenSmall_0 → Option Olaw23_TokenSmall_0} (hlaw23_TokenSmall_1 : ∀ s o, llaw23_TokenSmall_1 s = some o → ∃ m, fuelRec (Rlaw23_TokenSmall_1 K some) m s = some o) (hlaw23_TokenSmall_0 : ∀ s o, llaw23_TokenSmall_0 s = some o → ∃ m, fuelRec (Rlaw23_TokenSmall_0 K llaw23_TokenSmall_1 some) m s = some o) {b0n : Bool} {b0 : List AV} {v : AV} (h : Rlaw23_TokenSmall K llaw23_TokenSmall_0 b0n b0 = some v) : PureCall X f_law23_TokenSmall [(.lst 1 b0n b0)] v := by
  have hSo0 := soundX
  obtain ⟨_, _, hin0⟩ := loopIn_of (X := X) (f := 5) (i := 1) (key := 14) (by kernel_rfl)
  have hSo1 := sound_add hSo0 hin0 (oklaw23_TokenSmall_1 hSo0 hK hlaw23_TokenSmall_1)
  obtain ⟨_, _, hin1⟩ := loopIn_of (X := (addLp X 5 14 (Flaw23_TokenSmall_1 llaw23_TokenSmall_1))) (f := 5) (i := 0) (key := 7) (by kernel_rfl)
  have hSo2 := sound_add hSo1 hin1 (oklaw23_TokenSmall_0 llaw23_TokenSmall_1 hSo1 hK hlaw23_TokenSmall_0)
  exact tell_top (X := X) (Y := (addLp (addLp X 5 14 (Flaw23_TokenSmall_1 llaw23_TokenSmall_1)) 5 7 (Flaw23_TokenSmall_0 llaw23_TokenSmall_0))) rfl rfl hSo2 hK ((toplaw23_TokenSmall K llaw23_TokenSmall_1 llaw23_TokenSmall_0 b0n b0).trans h)

/-! 7: escheat/escheatlaw23.TokenFeeds -/
noncomputable def Rlaw23_TokenFeeds (K : PureK) (r0_0n : Bool) (r0_0 : List AV) (r0_1 : ByteArray) (r0_2 : Int) (r0_3 : Int) (b1n : Bool) (b1 : List AV) : Option AV :=
  optK (K f_law23_alive []) fun wv1 =>
    Ab.asBool wv1 fun wb2 =>
    br (!wb2)
      (some (bv false))
      (optK (br (decide (((b1.length : Nat) : Int) > 5000))
          (some (bv true))
          (br (decide (((r0_1.size : Nat) : Int) > 5000))
            (some (bv true))
            (some (bv (decide (((r0_0.length : Nat) : Int) > 20)))))) fun wv3 =>
      Ab.asBool wv3 fun wb4 =>
      br wb4
        (some (bv true))
        (optK (K f_token_Feed [AV.agg [AV.lst 1 r0_0n r0_0, sv r0_1, iv r0_2, iv r0_3], AV.lst 1 b1n b1]) fun wv5 =>
        Ab.asTup wv5 2 fun wg6 =>
        Ab.asAgg (wg6 0) 4 fun wg7 =>
        Ab.asLst (wg7 0) 1 fun wb8 wr8 =>
        Ab.asStr (wg7 1) fun ws9 =>
        Ab.asInt (wg7 2) .i64 fun wn10 =>
        Ab.asInt (wg7 3) .i64 fun wn11 =>
        Ab.asLst (wg6 1) 2 fun wb12 wr12 =>
        optK (K f_ref23_Feed [AV.agg [AV.lst 1 r0_0n r0_0, sv r0_1, iv r0_2, iv r0_3], AV.lst 1 b1n b1]) fun wv13 =>
        Ab.asTup wv13 2 fun wg14 =>
        Ab.asAgg (wg14 0) 4 fun wg15 =>
        Ab.asLst (wg15 0) 1 fun wb16 wr16 =>
        Ab.asStr (wg15 1) fun ws17 =>
        Ab.asInt (wg15 2) .i64 fun wn18 =>
        Ab.asInt (wg15 3) .i64 fun wn19 =>
        Ab.asLst (wg14 1) 2 fun wb20 wr20 =>
        optK (optK (K f_ref23_Same [AV.agg [AV.lst 1 wb8 wr8, sv ws9, iv wn10, iv wn11], AV.agg [AV.lst 1 wb16 wr16, sv ws17, iv wn18, iv wn19]]) fun wv22 =>
          Ab.asBool wv22 fun wb23 =>
          br wb23
            (optK (K f_ref23_Outs [AV.lst 2 wb12 wr12, AV.lst 2 wb20 wr20]) fun wv24 =>
            Ab.asBool wv24 fun wb25 =>
            br wb25
              (optK (K f_token_Right [AV.agg [AV.lst 1 r0_0n r0_0, sv r0_1, iv r0_2, iv r0_3]]) fun wv26 =>
              Ab.asBool wv26 fun wb27 =>
              optK (K f_ref23_Right [AV.agg [AV.lst 1 r0_0n r0_0, sv r0_1, iv r0_2, iv r0_3]]) fun wv28 =>
              Ab.asBool wv28 fun wb29 =>
              br (wb27 == wb29)
                (optK (K f_token_Same [AV.agg [AV.lst 1 r0_0n r0_0, sv r0_1, iv r0_2, iv r0_3], AV.agg [AV.lst 1 wb8 wr8, sv ws9, iv wn10, iv wn11]]) fun wv30 =>
                Ab.asBool wv30 fun wb31 =>
                optK (K f_ref23_Same [AV.agg [AV.lst 1 r0_0n r0_0, sv r0_1, iv r0_2, iv r0_3], AV.agg [AV.lst 1 wb8 wr8, sv ws9, iv wn10, iv wn11]]) fun wv32 =>
                Ab.asBool wv32 fun wb33 =>
                br (wb31 == wb33)
                  (optK (K f_token_Right [AV.agg [AV.lst 1 r0_0n r0_0, sv r0_1, iv r0_2, iv r0_3]]) fun wv34 =>
                  Ab.asBool wv34 fun wb35 =>
                  br (!wb35)
                    (some (bv true))
                    (optK (K f_token_Right [AV.agg [AV.lst 1 wb8 wr8, sv ws9, iv wn10, iv wn11]]) fun wv36 =>
                    Ab.asBool wv36 fun wb37 =>
                    some (bv wb37)))
                  (some (bv false)))
                (some (bv false)))
              (some (bv false)))
            (some (bv false))) fun wv21 =>
        Ab.asBool wv21 fun wb38 =>
        some (bv wb38)))
theorem toplaw23_TokenFeeds (K : PureK) (r0_0n : Bool) (r0_0 : List AV) (r0_1 : ByteArray) (r0_2 : Int) (r0_3 : Int) (b1n : Bool) (b1 : List AV) : topK X K 0 f_law23_TokenFeeds [(.agg [(.lst 1 r0_0n r0_0), (.v (.string r0_1)), (.v (.int .i64 r0_2)), (.v (.int .i64 r0_3))]), (.lst 1 b1n b1)] = Rlaw23_TokenFeeds K r0_0n r0_0 r0_1 r0_2 r0_3 b1n b1 := by kernel_rfl
theorem pclaw23_TokenFeeds {K : PureK} (hK : KOk X K) {r0_0n : Bool} {r0_0 : List AV} {r0_1 : ByteArray} {r0_2 : Int} {r0_3 : Int} {b1n : Bool} {b1 : List AV} {v : AV} (h : Rlaw23_TokenFeeds K r0_0n r0_0 r0_1 r0_2 r0_3 b1n b1 = some v) : PureCall X f_law23_TokenFeeds [(.agg [(.lst 1 r0_0n r0_0), (.v (.string r0_1)), (.v (.int .i64 r0_2)), (.v (.int .i64 r0_3))]), (.lst 1 b1n b1)] v := by
  have hSo0 := soundX
  exact tell_top (X := X) (Y := X) rfl rfl hSo0 hK ((toplaw23_TokenFeeds K r0_0n r0_0 r0_1 r0_2 r0_3 b1n b1).trans h)

/-! 8: escheat/escheatlaw23.alive -/
noncomputable def Rlaw23_alive (K : PureK) : Option AV :=
  optK (K f_token_Feed [AV.agg [AV.lst 1 true [], sv ({ data := #[] } : ByteArray), iv 0, iv 0], AV.lst 1 false [uv 97, uv 32, uv 123, uv 51, uv 125, uv 13, uv 10, uv 120, uv 121, uv 122, uv 13, uv 10, uv 98]]) fun wv1 =>
    Ab.asTup wv1 2 fun wg2 =>
    Ab.asAgg (wg2 0) 4 fun wg3 =>
    Ab.asLst (wg3 0) 1 fun wb4 wr4 =>
    Ab.asStr (wg3 1) fun ws5 =>
    Ab.asInt (wg3 2) .i64 fun wn6 =>
    Ab.asInt (wg3 3) .i64 fun wn7 =>
    Ab.asLst (wg2 1) 2 fun wb8 wr8 =>
    optK (br (((wr8.length : Nat) : Int) == 2)
        (br (decide (0 < ((wr8.length : Nat) : Int)))
          (optK wr8[0]? fun wv10 =>
          Ab.asAgg wv10 2 fun wg11 =>
          Ab.asInt (wg11 0) .i64 fun wn12 =>
          Ab.asLst (wg11 1) 1 fun wb13 wr13 =>
          br (wn12 == 2)
            (br (decide (1 < ((wr8.length : Nat) : Int)))
              (optK wr8[1]? fun wv14 =>
              Ab.asAgg wv14 2 fun wg15 =>
              Ab.asInt (wg15 0) .i64 fun wn16 =>
              Ab.asLst (wg15 1) 1 fun wb17 wr17 =>
              br (wn16 == 1)
                (br (decide (1 < ((wr8.length : Nat) : Int)))
                  (optK wr8[1]? fun wv18 =>
                  Ab.asAgg wv18 2 fun wg19 =>
                  Ab.asInt (wg19 0) .i64 fun wn20 =>
                  Ab.asLst (wg19 1) 1 fun wb21 wr21 =>
                  br (((wr21.length : Nat) : Int) == 3)
                    (br (decide (1 < ((wr8.length : Nat) : Int)))
                      (optK wr8[1]? fun wv22 =>
                      Ab.asAgg wv22 2 fun wg23 =>
                      Ab.asInt (wg23 0) .i64 fun wn24 =>
                      Ab.asLst (wg23 1) 1 fun wb25 wr25 =>
                      br (decide (0 < ((wr25.length : Nat) : Int)))
                        (optK wr25[0]? fun wv26 =>
                        Ab.asStr wv26 fun ws27 =>
                        br (strEq ws27 ({ data := #[97, 32] } : ByteArray))
                          (br (decide (1 < ((wr8.length : Nat) : Int)))
                            (optK wr8[1]? fun wv28 =>
                            Ab.asAgg wv28 2 fun wg29 =>
                            Ab.asInt (wg29 0) .i64 fun wn30 =>
                            Ab.asLst (wg29 1) 1 fun wb31 wr31 =>
                            br (decide (1 < ((wr31.length : Nat) : Int)))
                              (optK wr31[1]? fun wv32 =>
                              Ab.asStr wv32 fun ws33 =>
                              br (strEq ws33 ({ data := #[120, 121, 122] } : ByteArray))
                                (br (decide (1 < ((wr8.length : Nat) : Int)))
                                  (optK wr8[1]? fun wv34 =>
                                  Ab.asAgg wv34 2 fun wg35 =>
                                  Ab.asInt (wg35 0) .i64 fun wn36 =>
                                  Ab.asLst (wg35 1) 1 fun wb37 wr37 =>
                                  br (decide (2 < ((wr37.length : Nat) : Int)))
                                    (optK wr37[2]? fun wv38 =>
                                    Ab.asStr wv38 fun ws39 =>
                                    br (strEq ws39 ({ data := #[] } : ByteArray))
                                      (some (bv (strEq ws5 ({ data := #[98] } : ByteArray))))
                                      (some (bv false)))
                                    (none))
                                  (none))
                                (some (bv false)))
                              (none))
                            (none))
                          (some (bv false)))
                        (none))
                      (none))
                    (some (bv false)))
                  (none))
                (some (bv false)))
              (none))
            (some (bv false)))
          (none))
        (some (bv false))) fun wv9 =>
    Ab.asBool wv9 fun wb40 =>
    some (bv wb40)
theorem toplaw23_alive (K : PureK) : topK X K 0 f_law23_alive [] = Rlaw23_alive K := by kernel_rfl
theorem pclaw23_alive {K : PureK} (hK : KOk X K) {v : AV} (h : Rlaw23_alive K = some v) : PureCall X f_law23_alive [] v := by
  have hSo0 := soundX
  exact tell_top (X := X) (Y := X) rfl rfl hSo0 hK ((toplaw23_alive K).trans h)

end Go.Proofs.YtphbfkncimifoaaDoor
