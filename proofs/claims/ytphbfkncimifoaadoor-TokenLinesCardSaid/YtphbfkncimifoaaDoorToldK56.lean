import Derived.Test.YtphbfkncimifoaaDoorCtx
set_option maxRecDepth 100000
set_option linter.unusedVariables false
set_option linter.unusedSimpArgs false
namespace Go.Proofs.YtphbfkncimifoaaDoor
open Go Go.Ab
/-! 4: escheat/escheatlaw23.TokenLines -/
inductive Slaw23_TokenLines_0 where
  | s0 (words0n : Bool) (words0 : List AV) (literals1n : Bool) (literals1 : List AV) (i6 : Int)
  | s1 (words0n : Bool) (words0 : List AV) (literals1n : Bool) (literals1 : List AV) (i6 : Int) (obj0 : List AV)

inductive Olaw23_TokenLines_0 where
  | x0 (words0n : Bool) (words0 : List AV) (literals1n : Bool) (literals1 : List AV) (t4 : Bool)
  | x1 (words0n : Bool) (words0 : List AV) (literals1n : Bool) (literals1 : List AV) (t4 : Bool) (obj0 : List AV)
  | x2 (words0n : Bool) (words0 : List AV) (literals1n : Bool) (literals1 : List AV)
  | x3 (words0n : Bool) (words0 : List AV) (literals1n : Bool) (literals1 : List AV) (t4 : Bool) (obj0 : List AV)
  | x4 (words0n : Bool) (words0 : List AV) (literals1n : Bool) (literals1 : List AV) (t4 : Bool) (obj0 : List AV)
  | x5 (words0n : Bool) (words0 : List AV) (literals1n : Bool) (literals1 : List AV) (obj0 : List AV)

def Olaw23_TokenLines_0.k {β : Type} (o : Olaw23_TokenLines_0) (c0 : Bool → (List AV) → Bool → (List AV) → Bool → Option β) (c1 : Bool → (List AV) → Bool → (List AV) → Bool → (List AV) → Option β) (c2 : Bool → (List AV) → Bool → (List AV) → Option β) (c3 : Bool → (List AV) → Bool → (List AV) → Bool → (List AV) → Option β) (c4 : Bool → (List AV) → Bool → (List AV) → Bool → (List AV) → Option β) (c5 : Bool → (List AV) → Bool → (List AV) → (List AV) → Option β) : Option β := match o with
  | .x0 words0n words0 literals1n literals1 t4 => c0 words0n words0 literals1n literals1 t4
  | .x1 words0n words0 literals1n literals1 t4 obj0 => c1 words0n words0 literals1n literals1 t4 obj0
  | .x2 words0n words0 literals1n literals1 => c2 words0n words0 literals1n literals1
  | .x3 words0n words0 literals1n literals1 t4 obj0 => c3 words0n words0 literals1n literals1 t4 obj0
  | .x4 words0n words0 literals1n literals1 t4 obj0 => c4 words0n words0 literals1n literals1 t4 obj0
  | .x5 words0n words0 literals1n literals1 obj0 => c5 words0n words0 literals1n literals1 obj0

def Elaw23_TokenLines_0 : Slaw23_TokenLines_0 → Env
  | .s0 words0n words0 literals1n literals1 i6 => [(.lst 1 words0n words0), (.lst 1 literals1n literals1), .dead, .dead, .dead, (.lst 1 true []), (.v (.int .i64 i6)), .dead, .dead, .dead, .dead, .dead, .dead, .dead, .dead, .dead, .dead, .dead, .dead, .dead, .dead, .dead, .dead, .dead, .dead, .dead, .dead, .dead, .dead, .dead, .dead, .dead, .dead, .dead, .dead, .dead, .dead, .dead, .dead, .dead, .dead, .dead, .dead, .dead, .dead, .dead, .dead, .dead, .dead, .dead, .dead, .dead, .dead, .dead, .dead, .dead, .dead, .dead, .dead, .dead, .dead, .dead, .dead, .dead, .dead, .dead, .dead, .dead, .dead, .dead, .dead, .dead, .dead, .dead, .dead, .dead, .dead, .dead, .dead, .dead, .dead, .dead, .dead, .dead, .dead, .dead, .dead, .dead, .dead, .dead, .dead, .dead, .dead, .dead, .dead, .dead, .dead, .dead, .dead, .dead, .dead, .dead, .dead, .dead, .dead, .dead, .dead, .dead, .dead, .dead, .dead, .dead, .dead, .dead, .dead, .dead, .dead, .dead, .dead, .dead, .dead, .dead, .dead, .dead, .dead, .dead, .dead, .dead, .dead, .dead, .dead, .dead, .dead, .dead, .dead, .dead, .dead, .dead, .dead, .dead, .dead, .dead, .dead, .dead, .dead, .dead, .dead, .dead, .dead, .dead, .dead, .dead, .dead, .dead, .dead, .dead, .dead, .dead, .dead, .dead, .dead, .dead, .dead, .dead, .dead, .dead, .dead, .dead, .dead, .dead, .dead, .dead, .dead, .dead, .dead, .dead, .dead, .dead, .dead, .dead, .dead, .dead, .dead, .dead, .dead, .dead, .dead, .dead, .dead, .dead, .dead, .dead, .dead, .dead, .dead, .dead]
  | .s1 words0n words0 literals1n literals1 i6 obj0 => [(.lst 1 words0n words0), (.lst 1 literals1n literals1), .dead, .dead, .dead, (.own 0 1 0 none), (.v (.int .i64 i6)), .dead, .dead, .dead, .dead, .dead, .dead, .dead, .dead, .dead, .dead, .dead, .dead, .dead, .dead, .dead, .dead, .dead, .dead, .dead, .dead, .dead, .dead, .dead, .dead, .dead, .dead, .dead, .dead, .dead, .dead, .dead, .dead, .dead, .dead, .dead, .dead, .dead, .dead, .dead, .dead, .dead, .dead, .dead, .dead, .dead, .dead, .dead, .dead, .dead, .dead, .dead, .dead, .dead, .dead, .dead, .dead, .dead, .dead, .dead, .dead, .dead, .dead, .dead, .dead, .dead, .dead, .dead, .dead, .dead, .dead, .dead, .dead, .dead, .dead, .dead, .dead, .dead, .dead, .dead, .dead, .dead, .dead, .dead, .dead, .dead, .dead, .dead, .dead, .dead, .dead, .dead, .dead, .dead, .dead, .dead, .dead, .dead, .dead, .dead, .dead, .dead, .dead, .dead, .dead, .dead, .dead, .dead, .dead, .dead, .dead, .dead, .dead, .dead, .dead, .dead, .dead, .dead, .dead, .dead, .dead, .dead, .dead, .dead, .dead, .dead, .dead, .dead, .dead, .dead, .dead, .dead, .dead, .dead, .dead, .dead, .dead, .dead, .dead, .dead, .dead, .dead, .dead, .dead, .dead, .dead, .dead, .dead, .dead, .dead, .dead, .dead, .dead, .dead, .dead, .dead, .dead, .dead, .dead, .dead, .dead, .dead, .dead, .dead, .dead, .dead, .dead, .dead, .dead, .dead, .dead, .dead, .dead, .dead, .dead, .dead, .dead, .dead, .dead, .dead, .dead, .dead, .dead, .dead, .dead, .dead, .dead, .dead, .dead, .dead]

def Hlaw23_TokenLines_0 : Slaw23_TokenLines_0 → Heap
  | .s0 words0n words0 literals1n literals1 i6 => []
  | .s1 words0n words0 literals1n literals1 i6 obj0 => [⟨obj0, 1, 0, true, false, 5, 1, none⟩]

def Tlaw23_TokenLines_0 {β : Type} (k : Ex → Env → Heap → Option β) (o : Olaw23_TokenLines_0) : Option β := Olaw23_TokenLines_0.k o (fun words0n words0 literals1n literals1 t4 => k .ret [(.lst 1 words0n words0), (.lst 1 literals1n literals1), .dead, .dead, (.v (.bool t4)), (.lst 1 true []), .dead, .dead, .dead, .dead, .dead, .dead, .dead, .dead, .dead, .dead, .dead, .dead, .dead, .dead, .dead, .dead, .dead, .dead, .dead, .dead, .dead, .dead, .dead, .dead, .dead, .dead, .dead, .dead, .dead, .dead, .dead, .dead, .dead, .dead, .dead, .dead, .dead, .dead, .dead, .dead, .dead, .dead, .dead, .dead, .dead, .dead, .dead, .dead, .dead, .dead, .dead, .dead, .dead, .dead, .dead, .dead, .dead, .dead, .dead, .dead, .dead, .dead, .dead, .dead, .dead, .dead, .dead, .dead, .dead, .dead, .dead, .dead, .dead, .dead, .dead, .dead, .dead, .dead, .dead, .dead, .dead, .dead, .dead, .dead, .dead, .dead, .dead, .dead, .dead, .dead, .dead, .dead, .dead, .dead, .dead, .dead, .dead, .dead, .dead, .dead, .dead, .dead, .dead, .dead, .dead, .dead, .dead, .dead, .dead, .dead, .dead, .dead, .dead, .dead, .dead, .dead, .dead, .dead, .dead, .dead, .dead, .dead, .dead, .dead, .dead, .dead, .dead, .dead, .dead, .dead, .dead, .dead, .dead, .dead, .dead, .dead, .dead, .dead, .dead, .dead, .dead, .dead, .dead, .dead, .dead, .dead, .dead, .dead, .dead, .dead, .dead, .dead, .dead, .dead, .dead, .dead, .dead, .dead, .dead, .dead, .dead, .dead, .dead, .dead, .dead, .dead, .dead, .dead, .dead, .dead, .dead, .dead, .dead, .dead, .dead, .dead, .dead, .dead, .dead, .dead, .dead, .dead, .dead, .dead, .dead, .dead, .dead, .dead, .dead, .dead] []) (fun words0n words0 literals1n literals1 t4 obj0 => k .ret [(.lst 1 words0n words0), (.lst 1 literals1n literals1), .dead, .dead, (.v (.bool t4)), (.own 0 0 0 none), .dead, .dead, .dead, .dead, .dead, .dead, .dead, .dead, .dead, .dead, .dead, .dead, .dead, .dead, .dead, .dead, .dead, .dead, .dead, .dead, .dead, .dead, .dead, .dead, .dead, .dead, .dead, .dead, .dead, .dead, .dead, .dead, .dead, .dead, .dead, .dead, .dead, .dead, .dead, .dead, .dead, .dead, .dead, .dead, .dead, .dead, .dead, .dead, .dead, .dead, .dead, .dead, .dead, .dead, .dead, .dead, .dead, .dead, .dead, .dead, .dead, .dead, .dead, .dead, .dead, .dead, .dead, .dead, .dead, .dead, .dead, .dead, .dead, .dead, .dead, .dead, .dead, .dead, .dead, .dead, .dead, .dead, .dead, .dead, .dead, .dead, .dead, .dead, .dead, .dead, .dead, .dead, .dead, .dead, .dead, .dead, .dead, .dead, .dead, .dead, .dead, .dead, .dead, .dead, .dead, .dead, .dead, .dead, .dead, .dead, .dead, .dead, .dead, .dead, .dead, .dead, .dead, .dead, .dead, .dead, .dead, .dead, .dead, .dead, .dead, .dead, .dead, .dead, .dead, .dead, .dead, .dead, .dead, .dead, .dead, .dead, .dead, .dead, .dead, .dead, .dead, .dead, .dead, .dead, .dead, .dead, .dead, .dead, .dead, .dead, .dead, .dead, .dead, .dead, .dead, .dead, .dead, .dead, .dead, .dead, .dead, .dead, .dead, .dead, .dead, .dead, .dead, .dead, .dead, .dead, .dead, .dead, .dead, .dead, .dead, .dead, .dead, .dead, .dead, .dead, .dead, .dead, .dead, .dead, .dead, .dead, .dead, .dead, .dead, .dead] [⟨obj0, 0, 0, true, false, 5, 1, none⟩]) (fun words0n words0 literals1n literals1 => k (.exit 0) [(.lst 1 words0n words0), (.lst 1 literals1n literals1), .dead, .dead, .dead, (.lst 1 true []), .dead, .dead, .dead, .dead, .dead, .dead, .dead, .dead, .dead, .dead, .dead, .dead, .dead, .dead, .dead, .dead, .dead, .dead, .dead, .dead, .dead, .dead, .dead, .dead, .dead, .dead, .dead, .dead, .dead, .dead, .dead, .dead, .dead, .dead, .dead, .dead, .dead, .dead, .dead, .dead, .dead, .dead, .dead, .dead, .dead, .dead, .dead, .dead, .dead, .dead, .dead, .dead, .dead, .dead, .dead, .dead, .dead, .dead, .dead, .dead, .dead, .dead, .dead, .dead, .dead, .dead, .dead, .dead, .dead, .dead, .dead, .dead, .dead, .dead, .dead, .dead, .dead, .dead, .dead, .dead, .dead, .dead, .dead, .dead, .dead, .dead, .dead, .dead, .dead, .dead, .dead, .dead, .dead, .dead, .dead, .dead, .dead, .dead, .dead, .dead, .dead, .dead, .dead, .dead, .dead, .dead, .dead, .dead, .dead, .dead, .dead, .dead, .dead, .dead, .dead, .dead, .dead, .dead, .dead, .dead, .dead, .dead, .dead, .dead, .dead, .dead, .dead, .dead, .dead, .dead, .dead, .dead, .dead, .dead, .dead, .dead, .dead, .dead, .dead, .dead, .dead, .dead, .dead, .dead, .dead, .dead, .dead, .dead, .dead, .dead, .dead, .dead, .dead, .dead, .dead, .dead, .dead, .dead, .dead, .dead, .dead, .dead, .dead, .dead, .dead, .dead, .dead, .dead, .dead, .dead, .dead, .dead, .dead, .dead, .dead, .dead, .dead, .dead, .dead, .dead, .dead, .dead, .dead, .dead, .dead, .dead, .dead, .dead, .dead, .dead] []) (fun words0n words0 literals1n literals1 t4 obj0 => k .ret [(.lst 1 words0n words0), (.lst 1 literals1n literals1), .dead, .dead, (.v (.bool t4)), (.own 0 1 0 none), .dead, .dead, .dead, .dead, .dead, .dead, .dead, .dead, .dead, .dead, .dead, .dead, .dead, .dead, .dead, .dead, .dead, .dead, .dead, .dead, .dead, .dead, .dead, .dead, .dead, .dead, .dead, .dead, .dead, .dead, .dead, .dead, .dead, .dead, .dead, .dead, .dead, .dead, .dead, .dead, .dead, .dead, .dead, .dead, .dead, .dead, .dead, .dead, .dead, .dead, .dead, .dead, .dead, .dead, .dead, .dead, .dead, .dead, .dead, .dead, .dead, .dead, .dead, .dead, .dead, .dead, .dead, .dead, .dead, .dead, .dead, .dead, .dead, .dead, .dead, .dead, .dead, .dead, .dead, .dead, .dead, .dead, .dead, .dead, .dead, .dead, .dead, .dead, .dead, .dead, .dead, .dead, .dead, .dead, .dead, .dead, .dead, .dead, .dead, .dead, .dead, .dead, .dead, .dead, .dead, .dead, .dead, .dead, .dead, .dead, .dead, .dead, .dead, .dead, .dead, .dead, .dead, .dead, .dead, .dead, .dead, .dead, .dead, .dead, .dead, .dead, .dead, .dead, .dead, .dead, .dead, .dead, .dead, .dead, .dead, .dead, .dead, .dead, .dead, .dead, .dead, .dead, .dead, .dead, .dead, .dead, .dead, .dead, .dead, .dead, .dead, .dead, .dead, .dead, .dead, .dead, .dead, .dead, .dead, .dead, .dead, .dead, .dead, .dead, .dead, .dead, .dead, .dead, .dead, .dead, .dead, .dead, .dead, .dead, .dead, .dead, .dead, .dead, .dead, .dead, .dead, .dead, .dead, .dead, .dead, .dead, .dead, .dead, .dead, .dead] [⟨obj0, 1, 0, true, false, 5, 1, none⟩]) (fun words0n words0 literals1n literals1 t4 obj0 => k .ret [(.lst 1 words0n words0), (.lst 1 literals1n literals1), .dead, .dead, (.v (.bool t4)), (.own 0 2 0 none), .dead, .dead, .dead, .dead, .dead, .dead, .dead, .dead, .dead, .dead, .dead, .dead, .dead, .dead, .dead, .dead, .dead, .dead, .dead, .dead, .dead, .dead, .dead, .dead, .dead, .dead, .dead, .dead, .dead, .dead, .dead, .dead, .dead, .dead, .dead, .dead, .dead, .dead, .dead, .dead, .dead, .dead, .dead, .dead, .dead, .dead, .dead, .dead, .dead, .dead, .dead, .dead, .dead, .dead, .dead, .dead, .dead, .dead, .dead, .dead, .dead, .dead, .dead, .dead, .dead, .dead, .dead, .dead, .dead, .dead, .dead, .dead, .dead, .dead, .dead, .dead, .dead, .dead, .dead, .dead, .dead, .dead, .dead, .dead, .dead, .dead, .dead, .dead, .dead, .dead, .dead, .dead, .dead, .dead, .dead, .dead, .dead, .dead, .dead, .dead, .dead, .dead, .dead, .dead, .dead, .dead, .dead, .dead, .dead, .dead, .dead, .dead, .dead, .dead, .dead, .dead, .dead, .dead, .dead, .dead, .dead, .dead, .dead, .dead, .dead, .dead, .dead, .dead, .dead, .dead, .dead, .dead, .dead, .dead, .dead, .dead, .dead, .dead, .dead, .dead, .dead, .dead, .dead, .dead, .dead, .dead, .dead, .dead, .dead, .dead, .dead, .dead, .dead, .dead, .dead, .dead, .dead, .dead, .dead, .dead, .dead, .dead, .dead, .dead, .dead, .dead, .dead, .dead, .dead, .dead, .dead, .dead, .dead, .dead, .dead, .dead, .dead, .dead, .dead, .dead, .dead, .dead, .dead, .dead, .dead, .dead, .dead, .dead, .dead, .dead] [⟨obj0, 2, 0, true, false, 5, 1, none⟩]) (fun words0n words0 literals1n literals1 obj0 => k (.exit 0) [(.lst 1 words0n words0), (.lst 1 literals1n literals1), .dead, .dead, .dead, (.own 0 1 0 none), .dead, .dead, .dead, .dead, .dead, .dead, .dead, .dead, .dead, .dead, .dead, .dead, .dead, .dead, .dead, .dead, .dead, .dead, .dead, .dead, .dead, .dead, .dead, .dead, .dead, .dead, .dead, .dead, .dead, .dead, .dead, .dead, .dead, .dead, .dead, .dead, .dead, .dead, .dead, .dead, .dead, .dead, .dead, .dead, .dead, .dead, .dead, .dead, .dead, .dead, .dead, .dead, .dead, .dead, .dead, .dead, .dead, .dead, .dead, .dead, .dead, .dead, .dead, .dead, .dead, .dead, .dead, .dead, .dead, .dead, .dead, .dead, .dead, .dead, .dead, .dead, .dead, .dead, .dead, .dead, .dead, .dead, .dead, .dead, .dead, .dead, .dead, .dead, .dead, .dead, .dead, .dead, .dead, .dead, .dead, .dead, .dead, .dead, .dead, .dead, .dead, .dead, .dead, .dead, .dead, .dead, .dead, .dead, .dead, .dead, .dead, .dead, .dead, .dead, .dead, .dead, .dead, .dead, .dead, .dead, .dead, .dead, .dead, .dead, .dead, .dead, .dead, .dead, .dead, .dead, .dead, .dead, .dead, .dead, .dead, .dead, .dead, .dead, .dead, .dead, .dead, .dead, .dead, .dead, .dead, .dead, .dead, .dead, .dead, .dead, .dead, .dead, .dead, .dead, .dead, .dead, .dead, .dead, .dead, .dead, .dead, .dead, .dead, .dead, .dead, .dead, .dead, .dead, .dead, .dead, .dead, .dead, .dead, .dead, .dead, .dead, .dead, .dead, .dead, .dead, .dead, .dead, .dead, .dead, .dead, .dead, .dead, .dead, .dead, .dead] [⟨obj0, 1, 0, true, false, 5, 1, none⟩])

def Flaw23_TokenLines_0 (llaw23_TokenLines_0 : Slaw23_TokenLines_0 → Option Olaw23_TokenLines_0) : LoopF := ⟨fun e h k => match Nat.beq e.length 196 with
  | true => (match e.getD 0 .dead, e.getD 1 .dead, e.getD 5 .dead, e.getD 6 .dead, h with
    | (.lst 1 words0n words0), (.lst 1 literals1n literals1), (.lst 1 true []), (.v (.int .i64 i6)), [] => optK (llaw23_TokenLines_0 (.s0 words0n words0 literals1n literals1 i6)) (Tlaw23_TokenLines_0 k)
    | _, _, _, _, _ => none)
  | false => none⟩

def cllaw23_TokenLines_0 : List Tmp := [2, 3, 4, 7, 8, 9, 10, 11, 12, 13, 14, 15, 16, 17, 18, 19, 20, 21, 22, 23, 24, 25, 26, 27, 28, 29, 30, 31, 32, 33, 34, 35, 36, 37, 38, 39, 40, 41, 42, 43, 44, 45, 46, 47, 48, 49, 50, 51, 52, 53, 54, 55, 56, 57, 58, 59, 60, 61, 62, 63, 64, 65, 66, 67, 68, 69, 70, 71, 72, 73, 74, 75, 76, 77, 78, 79, 80, 81, 82, 83, 84, 85, 86, 87, 88, 89, 90, 91, 92, 93, 94, 95, 96, 97, 98, 99, 100, 101, 102, 103, 104, 105, 106, 107, 108, 109, 110, 111, 112, 113, 114, 115, 116, 117, 118, 119, 120, 121, 122, 123, 124, 125, 126, 127, 128, 129, 130, 131, 132, 133, 134, 135, 136, 137, 138, 139, 140, 141, 142, 143, 144, 145, 146, 147, 148, 149, 150, 151, 152, 153, 154, 155, 156, 157, 158, 159, 160, 161, 162, 163, 164, 165, 166, 167, 168, 169, 170, 171, 172, 173, 174, 175, 176, 177, 178, 179, 180, 181, 182, 183, 184, 185, 186, 187, 188, 189, 190, 191, 192, 193, 194, 195]
def clolaw23_TokenLines_0 : List Tmp := [2, 3, 6, 7, 8, 9, 10, 11, 12, 13, 14, 15, 16, 17, 18, 19, 20, 21, 22, 23, 24, 25, 26, 27, 28, 29, 30, 31, 32, 33, 34, 35, 36, 37, 38, 39, 40, 41, 42, 43, 44, 45, 46, 47, 48, 49, 50, 51, 52, 53, 54, 55, 56, 57, 58, 59, 60, 61, 62, 63, 64, 65, 66, 67, 68, 69, 70, 71, 72, 73, 74, 75, 76, 77, 78, 79, 80, 81, 82, 83, 84, 85, 86, 87, 88, 89, 90, 91, 92, 93, 94, 95, 96, 97, 98, 99, 100, 101, 102, 103, 104, 105, 106, 107, 108, 109, 110, 111, 112, 113, 114, 115, 116, 117, 118, 119, 120, 121, 122, 123, 124, 125, 126, 127, 128, 129, 130, 131, 132, 133, 134, 135, 136, 137, 138, 139, 140, 141, 142, 143, 144, 145, 146, 147, 148, 149, 150, 151, 152, 153, 154, 155, 156, 157, 158, 159, 160, 161, 162, 163, 164, 165, 166, 167, 168, 169, 170, 171, 172, 173, 174, 175, 176, 177, 178, 179, 180, 181, 182, 183, 184, 185, 186, 187, 188, 189, 190, 191, 192, 193, 194, 195]

noncomputable def Rlaw23_TokenLines_0 {β : Type} (K : PureK) (d : Olaw23_TokenLines_0 → Option β) (r : Slaw23_TokenLines_0 → Option β) : Slaw23_TokenLines_0 → Option β
  | .s0 words0n words0 literals1n literals1 i6 =>
    br (decide (i6 < ((words0.length : Nat) : Int)))
      (br (decide (0 ≤ i6))
        (br (decide (i6 < ((words0.length : Nat) : Int)))
          (optK words0[i6.toNat]? fun wv1 =>
          Ab.asStr wv1 fun ws2 =>
          optK (K f_law23_plain [sv ws2]) fun wv3 =>
          Ab.asBool wv3 fun wb4 =>
          br (!wb4)
            (d (.x0 words0n words0 literals1n literals1 true))
            (br (decide (0 ≤ i6))
              (br (decide (i6 < ((words0.length : Nat) : Int)))
                (optK words0[i6.toNat]? fun wv5 =>
                Ab.asStr wv5 fun ws6 =>
                br ((bytesRows ws6).isEmpty)
                  (br (decide (i6 < ((literals1.length : Nat) : Int)))
                    (br (decide (0 ≤ i6))
                      (br (decide (i6 < ((literals1.length : Nat) : Int)))
                        (optK literals1[i6.toNat]? fun wv7 =>
                        Ab.asLst wv7 1 fun wb8 wr8 =>
                        br (decide (((wr8.length : Nat) : Int) > 2000))
                          (d (.x0 words0n words0 literals1n literals1 true))
                          (br (decide (0 ≤ i6))
                            (br (decide (i6 < ((literals1.length : Nat) : Int)))
                              (optK literals1[i6.toNat]? fun wv9 =>
                              Ab.asLst wv9 1 fun wb10 wr10 =>
                              br (lenOk ([uv 32, uv 123, uv ((((UInt8.ofNat (w8 (w64 (48 + w64 ((((wr8.length : Nat) : Int)).tdiv 1000)))).toNat).toNat : Nat) : Int)), uv ((((UInt8.ofNat (w8 (w64 (48 + (w64 ((((wr8.length : Nat) : Int)).tdiv 100)).tmod 10))).toNat).toNat : Nat) : Int)), uv ((((UInt8.ofNat (w8 (w64 (48 + (w64 ((((wr8.length : Nat) : Int)).tdiv 10)).tmod 10))).toNat).toNat : Nat) : Int)), uv ((((UInt8.ofNat (w8 (w64 (48 + (((wr8.length : Nat) : Int)).tmod 10))).toNat).toNat : Nat) : Int)), uv 125, uv 13, uv 10].length + wr10.length) 1 && lenOk ([uv 32, uv 123, uv ((((UInt8.ofNat (w8 (w64 (48 + w64 ((((wr8.length : Nat) : Int)).tdiv 1000)))).toNat).toNat : Nat) : Int)), uv ((((UInt8.ofNat (w8 (w64 (48 + (w64 ((((wr8.length : Nat) : Int)).tdiv 100)).tmod 10))).toNat).toNat : Nat) : Int)), uv ((((UInt8.ofNat (w8 (w64 (48 + (w64 ((((wr8.length : Nat) : Int)).tdiv 10)).tmod 10))).toNat).toNat : Nat) : Int)), uv ((((UInt8.ofNat (w8 (w64 (48 + (((wr8.length : Nat) : Int)).tmod 10))).toNat).toNat : Nat) : Int)), uv 125, uv 13, uv 10].length + wr10.length) 1)
                                (br (lenOk (([uv 32, uv 123, uv ((((UInt8.ofNat (w8 (w64 (48 + w64 ((((wr8.length : Nat) : Int)).tdiv 1000)))).toNat).toNat : Nat) : Int)), uv ((((UInt8.ofNat (w8 (w64 (48 + (w64 ((((wr8.length : Nat) : Int)).tdiv 100)).tmod 10))).toNat).toNat : Nat) : Int)), uv ((((UInt8.ofNat (w8 (w64 (48 + (w64 ((((wr8.length : Nat) : Int)).tdiv 10)).tmod 10))).toNat).toNat : Nat) : Int)), uv ((((UInt8.ofNat (w8 (w64 (48 + (((wr8.length : Nat) : Int)).tmod 10))).toNat).toNat : Nat) : Int)), uv 125, uv 13, uv 10] ++ wr10).length + 2) 1 && lenOk (([uv 32, uv 123, uv ((((UInt8.ofNat (w8 (w64 (48 + w64 ((((wr8.length : Nat) : Int)).tdiv 1000)))).toNat).toNat : Nat) : Int)), uv ((((UInt8.ofNat (w8 (w64 (48 + (w64 ((((wr8.length : Nat) : Int)).tdiv 100)).tmod 10))).toNat).toNat : Nat) : Int)), uv ((((UInt8.ofNat (w8 (w64 (48 + (w64 ((((wr8.length : Nat) : Int)).tdiv 10)).tmod 10))).toNat).toNat : Nat) : Int)), uv ((((UInt8.ofNat (w8 (w64 (48 + (((wr8.length : Nat) : Int)).tmod 10))).toNat).toNat : Nat) : Int)), uv 125, uv 13, uv 10] ++ wr10).length + 2) 1)
                                  (r (.s1 words0n words0 literals1n literals1 (w64 (i6 + 1)) ([uv 32, uv 123, uv ((((UInt8.ofNat (w8 (w64 (48 + w64 ((((wr8.length : Nat) : Int)).tdiv 1000)))).toNat).toNat : Nat) : Int)), uv ((((UInt8.ofNat (w8 (w64 (48 + (w64 ((((wr8.length : Nat) : Int)).tdiv 100)).tmod 10))).toNat).toNat : Nat) : Int)), uv ((((UInt8.ofNat (w8 (w64 (48 + (w64 ((((wr8.length : Nat) : Int)).tdiv 10)).tmod 10))).toNat).toNat : Nat) : Int)), uv ((((UInt8.ofNat (w8 (w64 (48 + (((wr8.length : Nat) : Int)).tmod 10))).toNat).toNat : Nat) : Int)), uv 125, uv 13, uv 10] ++ wr10 ++ [uv 13, uv 10])))
                                  (none))
                                (none))
                              (none))
                            (none)))
                        (none))
                      (none))
                    (r (.s1 words0n words0 literals1n literals1 (w64 (i6 + 1)) [uv 13, uv 10])))
                  (br (lenOk (bytesRows ws6).length 1 && lenOk (bytesRows ws6).length 1)
                    (br (decide (i6 < ((literals1.length : Nat) : Int)))
                      (br (decide (0 ≤ i6))
                        (br (decide (i6 < ((literals1.length : Nat) : Int)))
                          (optK literals1[i6.toNat]? fun wv11 =>
                          Ab.asLst wv11 1 fun wb12 wr12 =>
                          br (decide (((wr12.length : Nat) : Int) > 2000))
                            (d (.x1 words0n words0 literals1n literals1 true (bytesRows ws6)))
                            (br (lenOk ((bytesRows ws6).length + [uv 32, uv 123, uv ((((UInt8.ofNat (w8 (w64 (48 + w64 ((((wr12.length : Nat) : Int)).tdiv 1000)))).toNat).toNat : Nat) : Int)), uv ((((UInt8.ofNat (w8 (w64 (48 + (w64 ((((wr12.length : Nat) : Int)).tdiv 100)).tmod 10))).toNat).toNat : Nat) : Int)), uv ((((UInt8.ofNat (w8 (w64 (48 + (w64 ((((wr12.length : Nat) : Int)).tdiv 10)).tmod 10))).toNat).toNat : Nat) : Int)), uv ((((UInt8.ofNat (w8 (w64 (48 + (((wr12.length : Nat) : Int)).tmod 10))).toNat).toNat : Nat) : Int)), uv 125, uv 13, uv 10].length) 1 && lenOk ((bytesRows ws6).length + [uv 32, uv 123, uv ((((UInt8.ofNat (w8 (w64 (48 + w64 ((((wr12.length : Nat) : Int)).tdiv 1000)))).toNat).toNat : Nat) : Int)), uv ((((UInt8.ofNat (w8 (w64 (48 + (w64 ((((wr12.length : Nat) : Int)).tdiv 100)).tmod 10))).toNat).toNat : Nat) : Int)), uv ((((UInt8.ofNat (w8 (w64 (48 + (w64 ((((wr12.length : Nat) : Int)).tdiv 10)).tmod 10))).toNat).toNat : Nat) : Int)), uv ((((UInt8.ofNat (w8 (w64 (48 + (((wr12.length : Nat) : Int)).tmod 10))).toNat).toNat : Nat) : Int)), uv 125, uv 13, uv 10].length) 1)
                              (br (decide (0 ≤ i6))
                                (br (decide (i6 < ((literals1.length : Nat) : Int)))
                                  (optK literals1[i6.toNat]? fun wv13 =>
                                  Ab.asLst wv13 1 fun wb14 wr14 =>
                                  br (lenOk ((bytesRows ws6 ++ [uv 32, uv 123, uv ((((UInt8.ofNat (w8 (w64 (48 + w64 ((((wr12.length : Nat) : Int)).tdiv 1000)))).toNat).toNat : Nat) : Int)), uv ((((UInt8.ofNat (w8 (w64 (48 + (w64 ((((wr12.length : Nat) : Int)).tdiv 100)).tmod 10))).toNat).toNat : Nat) : Int)), uv ((((UInt8.ofNat (w8 (w64 (48 + (w64 ((((wr12.length : Nat) : Int)).tdiv 10)).tmod 10))).toNat).toNat : Nat) : Int)), uv ((((UInt8.ofNat (w8 (w64 (48 + (((wr12.length : Nat) : Int)).tmod 10))).toNat).toNat : Nat) : Int)), uv 125, uv 13, uv 10]).length + wr14.length) 1 && lenOk ((bytesRows ws6 ++ [uv 32, uv 123, uv ((((UInt8.ofNat (w8 (w64 (48 + w64 ((((wr12.length : Nat) : Int)).tdiv 1000)))).toNat).toNat : Nat) : Int)), uv ((((UInt8.ofNat (w8 (w64 (48 + (w64 ((((wr12.length : Nat) : Int)).tdiv 100)).tmod 10))).toNat).toNat : Nat) : Int)), uv ((((UInt8.ofNat (w8 (w64 (48 + (w64 ((((wr12.length : Nat) : Int)).tdiv 10)).tmod 10))).toNat).toNat : Nat) : Int)), uv ((((UInt8.ofNat (w8 (w64 (48 + (((wr12.length : Nat) : Int)).tmod 10))).toNat).toNat : Nat) : Int)), uv 125, uv 13, uv 10]).length + wr14.length) 1)
                                    (br (lenOk ((bytesRows ws6 ++ [uv 32, uv 123, uv ((((UInt8.ofNat (w8 (w64 (48 + w64 ((((wr12.length : Nat) : Int)).tdiv 1000)))).toNat).toNat : Nat) : Int)), uv ((((UInt8.ofNat (w8 (w64 (48 + (w64 ((((wr12.length : Nat) : Int)).tdiv 100)).tmod 10))).toNat).toNat : Nat) : Int)), uv ((((UInt8.ofNat (w8 (w64 (48 + (w64 ((((wr12.length : Nat) : Int)).tdiv 10)).tmod 10))).toNat).toNat : Nat) : Int)), uv ((((UInt8.ofNat (w8 (w64 (48 + (((wr12.length : Nat) : Int)).tmod 10))).toNat).toNat : Nat) : Int)), uv 125, uv 13, uv 10] ++ wr14).length + 2) 1 && lenOk ((bytesRows ws6 ++ [uv 32, uv 123, uv ((((UInt8.ofNat (w8 (w64 (48 + w64 ((((wr12.length : Nat) : Int)).tdiv 1000)))).toNat).toNat : Nat) : Int)), uv ((((UInt8.ofNat (w8 (w64 (48 + (w64 ((((wr12.length : Nat) : Int)).tdiv 100)).tmod 10))).toNat).toNat : Nat) : Int)), uv ((((UInt8.ofNat (w8 (w64 (48 + (w64 ((((wr12.length : Nat) : Int)).tdiv 10)).tmod 10))).toNat).toNat : Nat) : Int)), uv ((((UInt8.ofNat (w8 (w64 (48 + (((wr12.length : Nat) : Int)).tmod 10))).toNat).toNat : Nat) : Int)), uv 125, uv 13, uv 10] ++ wr14).length + 2) 1)
                                      (r (.s1 words0n words0 literals1n literals1 (w64 (i6 + 1)) (bytesRows ws6 ++ [uv 32, uv 123, uv ((((UInt8.ofNat (w8 (w64 (48 + w64 ((((wr12.length : Nat) : Int)).tdiv 1000)))).toNat).toNat : Nat) : Int)), uv ((((UInt8.ofNat (w8 (w64 (48 + (w64 ((((wr12.length : Nat) : Int)).tdiv 100)).tmod 10))).toNat).toNat : Nat) : Int)), uv ((((UInt8.ofNat (w8 (w64 (48 + (w64 ((((wr12.length : Nat) : Int)).tdiv 10)).tmod 10))).toNat).toNat : Nat) : Int)), uv ((((UInt8.ofNat (w8 (w64 (48 + (((wr12.length : Nat) : Int)).tmod 10))).toNat).toNat : Nat) : Int)), uv 125, uv 13, uv 10] ++ wr14 ++ [uv 13, uv 10])))
                                      (none))
                                    (none))
                                  (none))
                                (none))
                              (none)))
                          (none))
                        (none))
                      (br (lenOk ((bytesRows ws6).length + 2) 1 && lenOk ((bytesRows ws6).length + 2) 1)
                        (r (.s1 words0n words0 literals1n literals1 (w64 (i6 + 1)) (bytesRows ws6 ++ [uv 13, uv 10])))
                        (none)))
                    (none)))
                (none))
              (none)))
          (none))
        (none))
      (d (.x2 words0n words0 literals1n literals1))
  | .s1 words0n words0 literals1n literals1 i6 obj0 =>
    br (decide (i6 < ((words0.length : Nat) : Int)))
      (br (decide (0 ≤ i6))
        (br (decide (i6 < ((words0.length : Nat) : Int)))
          (optK words0[i6.toNat]? fun wv15 =>
          Ab.asStr wv15 fun ws16 =>
          optK (K f_law23_plain [sv ws16]) fun wv17 =>
          Ab.asBool wv17 fun wb18 =>
          br (!wb18)
            (d (.x3 words0n words0 literals1n literals1 true obj0))
            (br (decide (0 ≤ i6))
              (br (decide (i6 < ((words0.length : Nat) : Int)))
                (optK words0[i6.toNat]? fun wv19 =>
                Ab.asStr wv19 fun ws20 =>
                br (lenOk (obj0.length + (bytesRows ws20).length) 1 && lenOk (obj0.length + (bytesRows ws20).length) 1)
                  (br (decide (i6 < ((literals1.length : Nat) : Int)))
                    (br (decide (0 ≤ i6))
                      (br (decide (i6 < ((literals1.length : Nat) : Int)))
                        (optK literals1[i6.toNat]? fun wv21 =>
                        Ab.asLst wv21 1 fun wb22 wr22 =>
                        br (decide (((wr22.length : Nat) : Int) > 2000))
                          (d (.x4 words0n words0 literals1n literals1 true (obj0 ++ bytesRows ws20)))
                          (br (lenOk ((obj0 ++ bytesRows ws20).length + [uv 32, uv 123, uv ((((UInt8.ofNat (w8 (w64 (48 + w64 ((((wr22.length : Nat) : Int)).tdiv 1000)))).toNat).toNat : Nat) : Int)), uv ((((UInt8.ofNat (w8 (w64 (48 + (w64 ((((wr22.length : Nat) : Int)).tdiv 100)).tmod 10))).toNat).toNat : Nat) : Int)), uv ((((UInt8.ofNat (w8 (w64 (48 + (w64 ((((wr22.length : Nat) : Int)).tdiv 10)).tmod 10))).toNat).toNat : Nat) : Int)), uv ((((UInt8.ofNat (w8 (w64 (48 + (((wr22.length : Nat) : Int)).tmod 10))).toNat).toNat : Nat) : Int)), uv 125, uv 13, uv 10].length) 1 && lenOk ((obj0 ++ bytesRows ws20).length + [uv 32, uv 123, uv ((((UInt8.ofNat (w8 (w64 (48 + w64 ((((wr22.length : Nat) : Int)).tdiv 1000)))).toNat).toNat : Nat) : Int)), uv ((((UInt8.ofNat (w8 (w64 (48 + (w64 ((((wr22.length : Nat) : Int)).tdiv 100)).tmod 10))).toNat).toNat : Nat) : Int)), uv ((((UInt8.ofNat (w8 (w64 (48 + (w64 ((((wr22.length : Nat) : Int)).tdiv 10)).tmod 10))).toNat).toNat : Nat) : Int)), uv ((((UInt8.ofNat (w8 (w64 (48 + (((wr22.length : Nat) : Int)).tmod 10))).toNat).toNat : Nat) : Int)), uv 125, uv 13, uv 10].length) 1)
                            (br (decide (0 ≤ i6))
                              (br (decide (i6 < ((literals1.length : Nat) : Int)))
                                (optK literals1[i6.toNat]? fun wv23 =>
                                Ab.asLst wv23 1 fun wb24 wr24 =>
                                br (lenOk ((obj0 ++ bytesRows ws20 ++ [uv 32, uv 123, uv ((((UInt8.ofNat (w8 (w64 (48 + w64 ((((wr22.length : Nat) : Int)).tdiv 1000)))).toNat).toNat : Nat) : Int)), uv ((((UInt8.ofNat (w8 (w64 (48 + (w64 ((((wr22.length : Nat) : Int)).tdiv 100)).tmod 10))).toNat).toNat : Nat) : Int)), uv ((((UInt8.ofNat (w8 (w64 (48 + (w64 ((((wr22.length : Nat) : Int)).tdiv 10)).tmod 10))).toNat).toNat : Nat) : Int)), uv ((((UInt8.ofNat (w8 (w64 (48 + (((wr22.length : Nat) : Int)).tmod 10))).toNat).toNat : Nat) : Int)), uv 125, uv 13, uv 10]).length + wr24.length) 1 && lenOk ((obj0 ++ bytesRows ws20 ++ [uv 32, uv 123, uv ((((UInt8.ofNat (w8 (w64 (48 + w64 ((((wr22.length : Nat) : Int)).tdiv 1000)))).toNat).toNat : Nat) : Int)), uv ((((UInt8.ofNat (w8 (w64 (48 + (w64 ((((wr22.length : Nat) : Int)).tdiv 100)).tmod 10))).toNat).toNat : Nat) : Int)), uv ((((UInt8.ofNat (w8 (w64 (48 + (w64 ((((wr22.length : Nat) : Int)).tdiv 10)).tmod 10))).toNat).toNat : Nat) : Int)), uv ((((UInt8.ofNat (w8 (w64 (48 + (((wr22.length : Nat) : Int)).tmod 10))).toNat).toNat : Nat) : Int)), uv 125, uv 13, uv 10]).length + wr24.length) 1)
                                  (br (lenOk ((obj0 ++ bytesRows ws20 ++ [uv 32, uv 123, uv ((((UInt8.ofNat (w8 (w64 (48 + w64 ((((wr22.length : Nat) : Int)).tdiv 1000)))).toNat).toNat : Nat) : Int)), uv ((((UInt8.ofNat (w8 (w64 (48 + (w64 ((((wr22.length : Nat) : Int)).tdiv 100)).tmod 10))).toNat).toNat : Nat) : Int)), uv ((((UInt8.ofNat (w8 (w64 (48 + (w64 ((((wr22.length : Nat) : Int)).tdiv 10)).tmod 10))).toNat).toNat : Nat) : Int)), uv ((((UInt8.ofNat (w8 (w64 (48 + (((wr22.length : Nat) : Int)).tmod 10))).toNat).toNat : Nat) : Int)), uv 125, uv 13, uv 10] ++ wr24).length + 2) 1 && lenOk ((obj0 ++ bytesRows ws20 ++ [uv 32, uv 123, uv ((((UInt8.ofNat (w8 (w64 (48 + w64 ((((wr22.length : Nat) : Int)).tdiv 1000)))).toNat).toNat : Nat) : Int)), uv ((((UInt8.ofNat (w8 (w64 (48 + (w64 ((((wr22.length : Nat) : Int)).tdiv 100)).tmod 10))).toNat).toNat : Nat) : Int)), uv ((((UInt8.ofNat (w8 (w64 (48 + (w64 ((((wr22.length : Nat) : Int)).tdiv 10)).tmod 10))).toNat).toNat : Nat) : Int)), uv ((((UInt8.ofNat (w8 (w64 (48 + (((wr22.length : Nat) : Int)).tmod 10))).toNat).toNat : Nat) : Int)), uv 125, uv 13, uv 10] ++ wr24).length + 2) 1)
                                    (r (.s1 words0n words0 literals1n literals1 (w64 (i6 + 1)) (obj0 ++ bytesRows ws20 ++ [uv 32, uv 123, uv ((((UInt8.ofNat (w8 (w64 (48 + w64 ((((wr22.length : Nat) : Int)).tdiv 1000)))).toNat).toNat : Nat) : Int)), uv ((((UInt8.ofNat (w8 (w64 (48 + (w64 ((((wr22.length : Nat) : Int)).tdiv 100)).tmod 10))).toNat).toNat : Nat) : Int)), uv ((((UInt8.ofNat (w8 (w64 (48 + (w64 ((((wr22.length : Nat) : Int)).tdiv 10)).tmod 10))).toNat).toNat : Nat) : Int)), uv ((((UInt8.ofNat (w8 (w64 (48 + (((wr22.length : Nat) : Int)).tmod 10))).toNat).toNat : Nat) : Int)), uv 125, uv 13, uv 10] ++ wr24 ++ [uv 13, uv 10])))
                                    (none))
                                  (none))
                                (none))
                              (none))
                            (none)))
                        (none))
                      (none))
                    (br (lenOk ((obj0 ++ bytesRows ws20).length + 2) 1 && lenOk ((obj0 ++ bytesRows ws20).length + 2) 1)
                      (r (.s1 words0n words0 literals1n literals1 (w64 (i6 + 1)) (obj0 ++ bytesRows ws20 ++ [uv 13, uv 10])))
                      (none)))
                  (none))
                (none))
              (none)))
          (none))
        (none))
      (d (.x5 words0n words0 literals1n literals1 obj0))
theorem roundlaw23_TokenLines_0 (K : PureK) {β : Type} (r : Env → Heap → Option β) (k : Ex → Env → Heap → Option β) (s : Slaw23_TokenLines_0) : tellOne X K 0 4 0 [(0, 1, 0), (1, 1, 0), (2, 1, 0)] 0 cllaw23_TokenLines_0 clolaw23_TokenLines_0 r k (Elaw23_TokenLines_0 s) (Hlaw23_TokenLines_0 s) = Rlaw23_TokenLines_0 K (Tlaw23_TokenLines_0 k) (fun s => r (Elaw23_TokenLines_0 s) (Hlaw23_TokenLines_0 s)) s := by
  cases s <;> kernel_rfl
theorem Olaw23_TokenLines_0.bind_k {β γ : Type} (o : Olaw23_TokenLines_0) (c0 : Bool → (List AV) → Bool → (List AV) → Bool → Option β) (c1 : Bool → (List AV) → Bool → (List AV) → Bool → (List AV) → Option β) (c2 : Bool → (List AV) → Bool → (List AV) → Option β) (c3 : Bool → (List AV) → Bool → (List AV) → Bool → (List AV) → Option β) (c4 : Bool → (List AV) → Bool → (List AV) → Bool → (List AV) → Option β) (c5 : Bool → (List AV) → Bool → (List AV) → (List AV) → Option β) (φ : β → Option γ) : (Olaw23_TokenLines_0.k o c0 c1 c2 c3 c4 c5).bind φ = Olaw23_TokenLines_0.k o (fun words0n words0 literals1n literals1 t4 => (c0 words0n words0 literals1n literals1 t4).bind φ) (fun words0n words0 literals1n literals1 t4 obj0 => (c1 words0n words0 literals1n literals1 t4 obj0).bind φ) (fun words0n words0 literals1n literals1 => (c2 words0n words0 literals1n literals1).bind φ) (fun words0n words0 literals1n literals1 t4 obj0 => (c3 words0n words0 literals1n literals1 t4 obj0).bind φ) (fun words0n words0 literals1n literals1 t4 obj0 => (c4 words0n words0 literals1n literals1 t4 obj0).bind φ) (fun words0n words0 literals1n literals1 obj0 => (c5 words0n words0 literals1n literals1 obj0).bind φ) := by cases o <;> rfl
theorem natlaw23_TokenLines_0 (K : PureK) {β γ : Type} (φ : β → Option γ) (d : Olaw23_TokenLines_0 → Option β) (r : Slaw23_TokenLines_0 → Option β) (s : Slaw23_TokenLines_0) : Rlaw23_TokenLines_0 K (fun o => (d o).bind φ) (fun s => (r s).bind φ) s = (Rlaw23_TokenLines_0 K d r s).bind φ := by
  cases s <;> simp only [Rlaw23_TokenLines_0, bind_optK, bind_br, bind_asInt, bind_asBool, bind_asStr, bind_asLst, bind_asAgg, bind_asTup, bind_asBig, bind_asErr, bind_none]
theorem outlaw23_TokenLines_0 (o : Olaw23_TokenLines_0) : ∃ x e' h', ∀ {β : Type} (k : Ex → Env → Heap → Option β), Tlaw23_TokenLines_0 k o = k x e' h' := by cases o <;> exact ⟨_, _, _, fun _ => rfl⟩
theorem oklaw23_TokenLines_0 {K : PureK} (hX : Sound X) (hK : KOk X K) {llaw23_TokenLines_0 : Slaw23_TokenLines_0 → Option Olaw23_TokenLines_0} (hl : ∀ s o, llaw23_TokenLines_0 s = some o → ∃ m, fuelRec (Rlaw23_TokenLines_0 K some) m s = some o) (β : Type) (e : Env) (h : Heap) (k : Ex → Env → Heap → Option β) (r : β) (hr : (Flaw23_TokenLines_0 llaw23_TokenLines_0).run e h k = some r) : ∃ x e' h', k x e' h' = some r ∧ CodeAt X (.loop (loopBody (X).P 4 0)) e h x e' h' := by
  obtain ⟨fn, c, hin⟩ := loopIn_of (X := X) (f := 4) (i := 0) (key := 7) (by kernel_rfl)
  simp only [Flaw23_TokenLines_0] at hr
  split at hr
  · rename_i hlen
    have hlen := Nat.eq_of_beq_eq_true hlen
    split at hr
    · rename_i q0 q1 q5 q6
      obtain ⟨o, ho, hr⟩ := optK_some hr
      refine tell_ok hX (KOk.congr (X := X) (Y := X) rfl rfl hK) hin (E := Elaw23_TokenLines_0) (H := Hlaw23_TokenLines_0) (R := fun d r => Rlaw23_TokenLines_0 K d r) (T := Tlaw23_TokenLines_0) (ts := [(0, 1, 0), (1, 1, 0), (2, 1, 0)]) (len := 0) (cl := cllaw23_TokenLines_0) (clo := clolaw23_TokenLines_0) (roundlaw23_TokenLines_0 K) (natlaw23_TokenLines_0 K) outlaw23_TokenLines_0 (hl _ _ ho) (cl0 := cllaw23_TokenLines_0) (ts0 := []) ?_ rfl (by kernel_rfl) (by kernel_rfl) hr
      rw [clear_lit e 196 hlen, show clearEnv cllaw23_TokenLines_0 ((List.range 196).map fun i => e.getD i .dead) = [e.getD 0 .dead, e.getD 1 .dead, .dead, .dead, .dead, e.getD 5 .dead, e.getD 6 .dead, .dead, .dead, .dead, .dead, .dead, .dead, .dead, .dead, .dead, .dead, .dead, .dead, .dead, .dead, .dead, .dead, .dead, .dead, .dead, .dead, .dead, .dead, .dead, .dead, .dead, .dead, .dead, .dead, .dead, .dead, .dead, .dead, .dead, .dead, .dead, .dead, .dead, .dead, .dead, .dead, .dead, .dead, .dead, .dead, .dead, .dead, .dead, .dead, .dead, .dead, .dead, .dead, .dead, .dead, .dead, .dead, .dead, .dead, .dead, .dead, .dead, .dead, .dead, .dead, .dead, .dead, .dead, .dead, .dead, .dead, .dead, .dead, .dead, .dead, .dead, .dead, .dead, .dead, .dead, .dead, .dead, .dead, .dead, .dead, .dead, .dead, .dead, .dead, .dead, .dead, .dead, .dead, .dead, .dead, .dead, .dead, .dead, .dead, .dead, .dead, .dead, .dead, .dead, .dead, .dead, .dead, .dead, .dead, .dead, .dead, .dead, .dead, .dead, .dead, .dead, .dead, .dead, .dead, .dead, .dead, .dead, .dead, .dead, .dead, .dead, .dead, .dead, .dead, .dead, .dead, .dead, .dead, .dead, .dead, .dead, .dead, .dead, .dead, .dead, .dead, .dead, .dead, .dead, .dead, .dead, .dead, .dead, .dead, .dead, .dead, .dead, .dead, .dead, .dead, .dead, .dead, .dead, .dead, .dead, .dead, .dead, .dead, .dead, .dead, .dead, .dead, .dead, .dead, .dead, .dead, .dead, .dead, .dead, .dead, .dead, .dead, .dead, .dead, .dead, .dead, .dead, .dead, .dead, .dead, .dead, .dead, .dead, .dead, .dead] from by kernel_rfl]; rw [q0, q1, q5, q6]
      kernel_rfl
    · cases hr
  · cases hr
inductive Slaw23_TokenLines_1 where
  | s0 (words0n : Bool) (words0 : List AV) (literals1n : Bool) (literals1 : List AV) (l9n : Bool) (l9 : List AV) (k10 : Int) (i11 : Int) (obj0_0_0n : Bool) (obj0_0_0 : List AV) (obj0_0_1 : ByteArray) (obj0_0_2 : Int) (obj0_0_3 : Int)

inductive Olaw23_TokenLines_1 where
  | x0 (t4 : Bool) (l9n : Bool) (l9 : List AV) (k10 : Int) (obj0_0_0n : Bool) (obj0_0_0 : List AV) (obj0_0_1 : ByteArray) (obj0_0_2 : Int) (obj0_0_3 : Int)
  | x1 (l9n : Bool) (l9 : List AV) (k10 : Int) (obj0_0_0n : Bool) (obj0_0_0 : List AV) (obj0_0_1 : ByteArray) (obj0_0_2 : Int) (obj0_0_3 : Int)

def Olaw23_TokenLines_1.k {β : Type} (o : Olaw23_TokenLines_1) (c0 : Bool → Bool → (List AV) → Int → Bool → (List AV) → ByteArray → Int → Int → Option β) (c1 : Bool → (List AV) → Int → Bool → (List AV) → ByteArray → Int → Int → Option β) : Option β := match o with
  | .x0 t4 l9n l9 k10 obj0_0_0n obj0_0_0 obj0_0_1 obj0_0_2 obj0_0_3 => c0 t4 l9n l9 k10 obj0_0_0n obj0_0_0 obj0_0_1 obj0_0_2 obj0_0_3
  | .x1 l9n l9 k10 obj0_0_0n obj0_0_0 obj0_0_1 obj0_0_2 obj0_0_3 => c1 l9n l9 k10 obj0_0_0n obj0_0_0 obj0_0_1 obj0_0_2 obj0_0_3

def Elaw23_TokenLines_1 : Slaw23_TokenLines_1 → Env
  | .s0 words0n words0 literals1n literals1 l9n l9 k10 i11 obj0_0_0n obj0_0_0 obj0_0_1 obj0_0_2 obj0_0_3 => [(.lst 1 words0n words0), (.lst 1 literals1n literals1), .dead, .dead, .dead, .dead, .dead, .dead, (.ptr 0 0 0 0), (.lst 2 l9n l9), (.v (.int .i64 k10)), (.v (.int .i64 i11)), .dead, .dead, .dead, .dead, .dead, .dead, .dead, .dead, .dead, .dead, .dead, .dead, .dead, .dead, .dead, .dead, .dead, .dead, .dead, .dead, .dead, .dead, .dead, .dead, .dead, .dead, .dead, .dead, .dead, .dead, .dead, .dead, .dead, .dead, .dead, .dead, .dead, .dead, .dead, .dead, .dead, .dead, .dead, .dead, .dead, .dead, .dead, .dead, .dead, .dead, .dead, .dead, .dead, .dead, .dead, .dead, .dead, .dead, .dead, .dead, .dead, .dead, .dead, .dead, .dead, .dead, .dead, .dead, .dead, .dead, .dead, .dead, .dead, .dead, .dead, .dead, .dead, .dead, .dead, .dead, .dead, .dead, .dead, .dead, .dead, .dead, .dead, .dead, .dead, .dead, .dead, .dead, .dead, .dead, .dead, .dead, .dead, .dead, .dead, .dead, .dead, .dead, .dead, .dead, .dead, .dead, .dead, .dead, .dead, .dead, .dead, .dead, .dead, .dead, .dead, .dead, .dead, .dead, .dead, .dead, .dead, .dead, .dead, .dead, .dead, .dead, .dead, .dead, .dead, .dead, .dead, .dead, .dead, .dead, .dead, .dead, .dead, .dead, .dead, .dead, .dead, .dead, .dead, .dead, .dead, .dead, .dead, .dead, .dead, .dead, .dead, .dead, .dead, .dead, .dead, .dead, .dead, .dead, .dead, .dead, .dead, .dead, .dead, .dead, .dead, .dead, .dead, .dead, .dead, .dead, .dead, .dead, .dead, .dead, .dead, .dead, .dead, .dead, .dead, .dead, .dead, .dead, .dead, .dead]

def Hlaw23_TokenLines_1 : Slaw23_TokenLines_1 → Heap
  | .s0 words0n words0 literals1n literals1 l9n l9 k10 i11 obj0_0_0n obj0_0_0 obj0_0_1 obj0_0_2 obj0_0_3 => [⟨[(.agg [(.lst 1 obj0_0_0n obj0_0_0), (.v (.string obj0_0_1)), (.v (.int .i64 obj0_0_2)), (.v (.int .i64 obj0_0_3))])], 0, 0, true, true, 27, 4, none⟩]

def Tlaw23_TokenLines_1 {β : Type} (k : Ex → Env → Heap → Option β) (o : Olaw23_TokenLines_1) : Option β := Olaw23_TokenLines_1.k o (fun t4 l9n l9 k10 obj0_0_0n obj0_0_0 obj0_0_1 obj0_0_2 obj0_0_3 => k .ret [.dead, .dead, .dead, .dead, (.v (.bool t4)), .dead, .dead, .dead, (.ptr 0 0 0 0), (.lst 2 l9n l9), (.v (.int .i64 k10)), .dead, .dead, .dead, .dead, .dead, .dead, .dead, .dead, .dead, .dead, .dead, .dead, .dead, .dead, .dead, .dead, .dead, .dead, .dead, .dead, .dead, .dead, .dead, .dead, .dead, .dead, .dead, .dead, .dead, .dead, .dead, .dead, .dead, .dead, .dead, .dead, .dead, .dead, .dead, .dead, .dead, .dead, .dead, .dead, .dead, .dead, .dead, .dead, .dead, .dead, .dead, .dead, .dead, .dead, .dead, .dead, .dead, .dead, .dead, .dead, .dead, .dead, .dead, .dead, .dead, .dead, .dead, .dead, .dead, .dead, .dead, .dead, .dead, .dead, .dead, .dead, .dead, .dead, .dead, .dead, .dead, .dead, .dead, .dead, .dead, .dead, .dead, .dead, .dead, .dead, .dead, .dead, .dead, .dead, .dead, .dead, .dead, .dead, .dead, .dead, .dead, .dead, .dead, .dead, .dead, .dead, .dead, .dead, .dead, .dead, .dead, .dead, .dead, .dead, .dead, .dead, .dead, .dead, .dead, .dead, .dead, .dead, .dead, .dead, .dead, .dead, .dead, .dead, .dead, .dead, .dead, .dead, .dead, .dead, .dead, .dead, .dead, .dead, .dead, .dead, .dead, .dead, .dead, .dead, .dead, .dead, .dead, .dead, .dead, .dead, .dead, .dead, .dead, .dead, .dead, .dead, .dead, .dead, .dead, .dead, .dead, .dead, .dead, .dead, .dead, .dead, .dead, .dead, .dead, .dead, .dead, .dead, .dead, .dead, .dead, .dead, .dead, .dead, .dead, .dead, .dead, .dead, .dead, .dead, .dead] [⟨[(.agg [(.lst 1 obj0_0_0n obj0_0_0), (.v (.string obj0_0_1)), (.v (.int .i64 obj0_0_2)), (.v (.int .i64 obj0_0_3))])], 0, 0, true, true, 27, 4, none⟩]) (fun l9n l9 k10 obj0_0_0n obj0_0_0 obj0_0_1 obj0_0_2 obj0_0_3 => k (.exit 2) [.dead, .dead, .dead, .dead, .dead, .dead, .dead, .dead, (.ptr 0 0 0 0), (.lst 2 l9n l9), (.v (.int .i64 k10)), .dead, .dead, .dead, .dead, .dead, .dead, .dead, .dead, .dead, .dead, .dead, .dead, .dead, .dead, .dead, .dead, .dead, .dead, .dead, .dead, .dead, .dead, .dead, .dead, .dead, .dead, .dead, .dead, .dead, .dead, .dead, .dead, .dead, .dead, .dead, .dead, .dead, .dead, .dead, .dead, .dead, .dead, .dead, .dead, .dead, .dead, .dead, .dead, .dead, .dead, .dead, .dead, .dead, .dead, .dead, .dead, .dead, .dead, .dead, .dead, .dead, .dead, .dead, .dead, .dead, .dead, .dead, .dead, .dead, .dead, .dead, .dead, .dead, .dead, .dead, .dead, .dead, .dead, .dead, .dead, .dead, .dead, .dead, .dead, .dead, .dead, .dead, .dead, .dead, .dead, .dead, .dead, .dead, .dead, .dead, .dead, .dead, .dead, .dead, .dead, .dead, .dead, .dead, .dead, .dead, .dead, .dead, .dead, .dead, .dead, .dead, .dead, .dead, .dead, .dead, .dead, .dead, .dead, .dead, .dead, .dead, .dead, .dead, .dead, .dead, .dead, .dead, .dead, .dead, .dead, .dead, .dead, .dead, .dead, .dead, .dead, .dead, .dead, .dead, .dead, .dead, .dead, .dead, .dead, .dead, .dead, .dead, .dead, .dead, .dead, .dead, .dead, .dead, .dead, .dead, .dead, .dead, .dead, .dead, .dead, .dead, .dead, .dead, .dead, .dead, .dead, .dead, .dead, .dead, .dead, .dead, .dead, .dead, .dead, .dead, .dead, .dead, .dead, .dead, .dead, .dead, .dead, .dead, .dead, .dead] [⟨[(.agg [(.lst 1 obj0_0_0n obj0_0_0), (.v (.string obj0_0_1)), (.v (.int .i64 obj0_0_2)), (.v (.int .i64 obj0_0_3))])], 0, 0, true, true, 27, 4, none⟩])

def Flaw23_TokenLines_1 (llaw23_TokenLines_1 : Slaw23_TokenLines_1 → Option Olaw23_TokenLines_1) : LoopF := ⟨fun e h k => match Nat.beq e.length 196 with
  | true => (match e.getD 0 .dead, e.getD 1 .dead, e.getD 8 .dead, e.getD 9 .dead, e.getD 10 .dead, e.getD 11 .dead, h with
    | (.lst 1 words0n words0), (.lst 1 literals1n literals1), (.ptr 0 0 0 0), (.lst 2 l9n l9), (.v (.int .i64 k10)), (.v (.int .i64 i11)), [⟨[(.agg [(.lst 1 obj0_0_0n obj0_0_0), (.v (.string obj0_0_1)), (.v (.int .i64 obj0_0_2)), (.v (.int .i64 obj0_0_3))])], 0, 0, true, true, 27, 4, none⟩] => optK (llaw23_TokenLines_1 (.s0 words0n words0 literals1n literals1 l9n l9 k10 i11 obj0_0_0n obj0_0_0 obj0_0_1 obj0_0_2 obj0_0_3)) (Tlaw23_TokenLines_1 k)
    | _, _, _, _, _, _, _ => none)
  | false => none⟩

def cllaw23_TokenLines_1 : List Tmp := [2, 3, 4, 5, 6, 7, 12, 13, 14, 15, 16, 17, 18, 19, 20, 21, 22, 23, 24, 25, 26, 27, 28, 29, 30, 31, 32, 33, 34, 35, 36, 37, 38, 39, 40, 41, 42, 43, 44, 45, 46, 47, 48, 49, 50, 51, 52, 53, 54, 55, 56, 57, 58, 59, 60, 61, 62, 63, 64, 65, 66, 67, 68, 69, 70, 71, 72, 73, 74, 75, 76, 77, 78, 79, 80, 81, 82, 83, 84, 85, 86, 87, 88, 89, 90, 91, 92, 93, 94, 95, 96, 97, 98, 99, 100, 101, 102, 103, 104, 105, 106, 107, 108, 109, 110, 111, 112, 113, 114, 115, 116, 117, 118, 119, 120, 121, 122, 123, 124, 125, 126, 127, 128, 129, 130, 131, 132, 133, 134, 135, 136, 137, 138, 139, 140, 141, 142, 143, 144, 145, 146, 147, 148, 149, 150, 151, 152, 153, 154, 155, 156, 157, 158, 159, 160, 161, 162, 163, 164, 165, 166, 167, 168, 169, 170, 171, 172, 173, 174, 175, 176, 177, 178, 179, 180, 181, 182, 183, 184, 185, 186, 187, 188, 189, 190, 191, 192, 193, 194, 195]
def clolaw23_TokenLines_1 : List Tmp := [0, 1, 2, 3, 5, 6, 7, 11, 12, 13, 14, 15, 16, 17, 18, 19, 20, 21, 22, 23, 24, 25, 26, 27, 28, 29, 30, 31, 32, 33, 34, 35, 36, 37, 38, 39, 40, 41, 42, 43, 44, 45, 46, 47, 48, 49, 50, 51, 52, 53, 54, 55, 56, 57, 58, 59, 60, 61, 62, 63, 64, 65, 66, 67, 68, 69, 70, 71, 72, 73, 74, 75, 76, 77, 78, 79, 80, 81, 82, 83, 84, 85, 86, 87, 88, 89, 90, 91, 92, 93, 94, 95, 96, 97, 98, 99, 100, 101, 102, 103, 104, 105, 106, 107, 108, 109, 110, 111, 112, 113, 114, 115, 116, 117, 118, 119, 120, 121, 122, 123, 124, 125, 126, 127, 128, 129, 130, 131, 132, 133, 134, 135, 136, 137, 138, 139, 140, 141, 142, 143, 144, 145, 146, 147, 148, 149, 150, 151, 152, 153, 154, 155, 156, 157, 158, 159, 160, 161, 162, 163, 164, 165, 166, 167, 168, 169, 170, 171, 172, 173, 174, 175, 176, 177, 178, 179, 180, 181, 182, 183, 184, 185, 186, 187, 188, 189, 190, 191, 192, 193, 194, 195]

noncomputable def Rlaw23_TokenLines_1 {β : Type} (K : PureK) (d : Olaw23_TokenLines_1 → Option β) (r : Slaw23_TokenLines_1 → Option β) : Slaw23_TokenLines_1 → Option β
  | .s0 words0n words0 literals1n literals1 l9n l9 k10 i11 obj0_0_0n obj0_0_0 obj0_0_1 obj0_0_2 obj0_0_3 =>
    br (decide (i11 < ((words0.length : Nat) : Int)))
      (br (decide (i11 < ((literals1.length : Nat) : Int)))
        (optK (br (decide (k10 ≥ ((l9.length : Nat) : Int)))
            (some (bv true))
            (br (decide (0 ≤ k10))
              (br (decide (k10 < ((l9.length : Nat) : Int)))
                (optK l9[k10.toNat]? fun wv2 =>
                Ab.asAgg wv2 2 fun wg3 =>
                Ab.asInt (wg3 0) .i64 fun wn4 =>
                Ab.asLst (wg3 1) 1 fun wb5 wr5 =>
                some (bv (wn4 != 2)))
                (none))
              (none))) fun wv1 =>
        Ab.asBool wv1 fun wb6 =>
        br wb6
          (d (.x0 false l9n l9 k10 obj0_0_0n obj0_0_0 obj0_0_1 obj0_0_2 obj0_0_3))
          (optK (br (decide (w64 (k10 + 1) ≥ ((l9.length : Nat) : Int)))
              (some (bv true))
              (br (decide (0 ≤ w64 (k10 + 1)))
                (br (decide (w64 (k10 + 1) < ((l9.length : Nat) : Int)))
                  (optK (l9[(w64 (k10 + 1)).toNat]?) fun wv8 =>
                  Ab.asAgg wv8 2 fun wg9 =>
                  Ab.asInt (wg9 0) .i64 fun wn10 =>
                  Ab.asLst (wg9 1) 1 fun wb11 wr11 =>
                  some (bv (wn10 != 1)))
                  (none))
                (none))) fun wv7 =>
          Ab.asBool wv7 fun wb12 =>
          br wb12
            (d (.x0 false l9n l9 (w64 (k10 + 1)) obj0_0_0n obj0_0_0 obj0_0_1 obj0_0_2 obj0_0_3))
            (br (decide (0 ≤ w64 (k10 + 1)))
              (br (decide (w64 (k10 + 1) < ((l9.length : Nat) : Int)))
                (optK (l9[(w64 (k10 + 1)).toNat]?) fun wv13 =>
                Ab.asAgg wv13 2 fun wg14 =>
                Ab.asInt (wg14 0) .i64 fun wn15 =>
                Ab.asLst (wg14 1) 1 fun wb16 wr16 =>
                optK (br (decide (i11 < ((literals1.length : Nat) : Int)))
                    (br (((wr16.length : Nat) : Int) != 3)
                      (some (bv true))
                      (br (decide (0 < ((wr16.length : Nat) : Int)))
                        (optK wr16[0]? fun wv18 =>
                        Ab.asStr wv18 fun ws19 =>
                        br (decide (0 ≤ i11))
                          (br (decide (i11 < ((words0.length : Nat) : Int)))
                            (optK words0[i11.toNat]? fun wv20 =>
                            Ab.asStr wv20 fun ws21 =>
                            br ((ws21.size + 1).ble maxStr)
                              (br (!strEq ws19 (catStr ws21 ({ data := #[32] } : ByteArray)))
                                (some (bv true))
                                (br (decide (1 < ((wr16.length : Nat) : Int)))
                                  (optK wr16[1]? fun wv22 =>
                                  Ab.asStr wv22 fun ws23 =>
                                  br (decide (0 ≤ i11))
                                    (br (decide (i11 < ((literals1.length : Nat) : Int)))
                                      (optK literals1[i11.toNat]? fun wv24 =>
                                      Ab.asLst wv24 1 fun wb25 wr25 =>
                                      optK (rowsBytes wr25) fun wv26 =>
                                      br (!strEq ws23 ({ data := wv26.toArray } : ByteArray))
                                        (some (bv true))
                                        (br (decide (2 < ((wr16.length : Nat) : Int)))
                                          (optK wr16[2]? fun wv27 =>
                                          Ab.asStr wv27 fun ws28 =>
                                          br (!strEq ws28 ({ data := #[] } : ByteArray))
                                            (some (bv true))
                                            (br (decide (i11 ≥ ((literals1.length : Nat) : Int)))
                                              (br (((wr16.length : Nat) : Int) != 1)
                                                (some (bv true))
                                                (br (decide (0 < ((wr16.length : Nat) : Int)))
                                                  (optK wr16[0]? fun wv29 =>
                                                  Ab.asStr wv29 fun ws30 =>
                                                  br (decide (0 ≤ i11))
                                                    (br (decide (i11 < ((words0.length : Nat) : Int)))
                                                      (optK words0[i11.toNat]? fun wv31 =>
                                                      Ab.asStr wv31 fun ws32 =>
                                                      some (bv !strEq ws30 ws32))
                                                      (none))
                                                    (none))
                                                  (none)))
                                              (some (bv false))))
                                          (none)))
                                      (none))
                                    (none))
                                  (none)))
                              (none))
                            (none))
                          (none))
                        (none)))
                    (br (decide (i11 ≥ ((literals1.length : Nat) : Int)))
                      (br (((wr16.length : Nat) : Int) != 1)
                        (some (bv true))
                        (br (decide (0 < ((wr16.length : Nat) : Int)))
                          (optK wr16[0]? fun wv33 =>
                          Ab.asStr wv33 fun ws34 =>
                          br (decide (0 ≤ i11))
                            (br (decide (i11 < ((words0.length : Nat) : Int)))
                              (optK words0[i11.toNat]? fun wv35 =>
                              Ab.asStr wv35 fun ws36 =>
                              some (bv !strEq ws34 ws36))
                              (none))
                            (none))
                          (none)))
                      (some (bv false)))) fun wv17 =>
                Ab.asBool wv17 fun wb37 =>
                br wb37
                  (d (.x0 false l9n l9 (w64 (k10 + 1)) obj0_0_0n obj0_0_0 obj0_0_1 obj0_0_2 obj0_0_3))
                  (r (.s0 words0n words0 literals1n literals1 l9n l9 (w64 (w64 (k10 + 1) + 1)) (w64 (i11 + 1)) obj0_0_0n obj0_0_0 obj0_0_1 obj0_0_2 obj0_0_3)))
                (none))
              (none))))
        (optK (br (decide (k10 ≥ ((l9.length : Nat) : Int)))
            (some (bv true))
            (br (decide (0 ≤ k10))
              (br (decide (k10 < ((l9.length : Nat) : Int)))
                (optK l9[k10.toNat]? fun wv39 =>
                Ab.asAgg wv39 2 fun wg40 =>
                Ab.asInt (wg40 0) .i64 fun wn41 =>
                Ab.asLst (wg40 1) 1 fun wb42 wr42 =>
                some (bv (wn41 != 1)))
                (none))
              (none))) fun wv38 =>
        Ab.asBool wv38 fun wb43 =>
        br wb43
          (d (.x0 false l9n l9 k10 obj0_0_0n obj0_0_0 obj0_0_1 obj0_0_2 obj0_0_3))
          (br (decide (0 ≤ k10))
            (br (decide (k10 < ((l9.length : Nat) : Int)))
              (optK l9[k10.toNat]? fun wv44 =>
              Ab.asAgg wv44 2 fun wg45 =>
              Ab.asInt (wg45 0) .i64 fun wn46 =>
              Ab.asLst (wg45 1) 1 fun wb47 wr47 =>
              optK (br (decide (i11 < ((literals1.length : Nat) : Int)))
                  (br (((wr47.length : Nat) : Int) != 3)
                    (some (bv true))
                    (br (decide (0 < ((wr47.length : Nat) : Int)))
                      (optK wr47[0]? fun wv49 =>
                      Ab.asStr wv49 fun ws50 =>
                      br (decide (0 ≤ i11))
                        (br (decide (i11 < ((words0.length : Nat) : Int)))
                          (optK words0[i11.toNat]? fun wv51 =>
                          Ab.asStr wv51 fun ws52 =>
                          br ((ws52.size + 1).ble maxStr)
                            (br (!strEq ws50 (catStr ws52 ({ data := #[32] } : ByteArray)))
                              (some (bv true))
                              (br (decide (1 < ((wr47.length : Nat) : Int)))
                                (optK wr47[1]? fun wv53 =>
                                Ab.asStr wv53 fun ws54 =>
                                br (decide (0 ≤ i11))
                                  (br (decide (i11 < ((literals1.length : Nat) : Int)))
                                    (optK literals1[i11.toNat]? fun wv55 =>
                                    Ab.asLst wv55 1 fun wb56 wr56 =>
                                    optK (rowsBytes wr56) fun wv57 =>
                                    br (!strEq ws54 ({ data := wv57.toArray } : ByteArray))
                                      (some (bv true))
                                      (br (decide (2 < ((wr47.length : Nat) : Int)))
                                        (optK wr47[2]? fun wv58 =>
                                        Ab.asStr wv58 fun ws59 =>
                                        br (!strEq ws59 ({ data := #[] } : ByteArray))
                                          (some (bv true))
                                          (br (decide (i11 ≥ ((literals1.length : Nat) : Int)))
                                            (br (((wr47.length : Nat) : Int) != 1)
                                              (some (bv true))
                                              (br (decide (0 < ((wr47.length : Nat) : Int)))
                                                (optK wr47[0]? fun wv60 =>
                                                Ab.asStr wv60 fun ws61 =>
                                                br (decide (0 ≤ i11))
                                                  (br (decide (i11 < ((words0.length : Nat) : Int)))
                                                    (optK words0[i11.toNat]? fun wv62 =>
                                                    Ab.asStr wv62 fun ws63 =>
                                                    some (bv !strEq ws61 ws63))
                                                    (none))
                                                  (none))
                                                (none)))
                                            (some (bv false))))
                                        (none)))
                                    (none))
                                  (none))
                                (none)))
                            (none))
                          (none))
                        (none))
                      (none)))
                  (br (decide (i11 ≥ ((literals1.length : Nat) : Int)))
                    (br (((wr47.length : Nat) : Int) != 1)
                      (some (bv true))
                      (br (decide (0 < ((wr47.length : Nat) : Int)))
                        (optK wr47[0]? fun wv64 =>
                        Ab.asStr wv64 fun ws65 =>
                        br (decide (0 ≤ i11))
                          (br (decide (i11 < ((words0.length : Nat) : Int)))
                            (optK words0[i11.toNat]? fun wv66 =>
                            Ab.asStr wv66 fun ws67 =>
                            some (bv !strEq ws65 ws67))
                            (none))
                          (none))
                        (none)))
                    (some (bv false)))) fun wv48 =>
              Ab.asBool wv48 fun wb68 =>
              br wb68
                (d (.x0 false l9n l9 k10 obj0_0_0n obj0_0_0 obj0_0_1 obj0_0_2 obj0_0_3))
                (r (.s0 words0n words0 literals1n literals1 l9n l9 (w64 (k10 + 1)) (w64 (i11 + 1)) obj0_0_0n obj0_0_0 obj0_0_1 obj0_0_2 obj0_0_3)))
              (none))
            (none))))
      (d (.x1 l9n l9 k10 obj0_0_0n obj0_0_0 obj0_0_1 obj0_0_2 obj0_0_3))
theorem roundlaw23_TokenLines_1 (K : PureK) (llaw23_TokenLines_0 : Slaw23_TokenLines_0 → Option Olaw23_TokenLines_0) {β : Type} (r : Env → Heap → Option β) (k : Ex → Env → Heap → Option β) (s : Slaw23_TokenLines_1) : tellOne (addLp X 4 7 (Flaw23_TokenLines_0 llaw23_TokenLines_0)) K 0 4 1 [(1, 1, 0), (2, 1, 0), (3, 1, 0)] 1 cllaw23_TokenLines_1 clolaw23_TokenLines_1 r k (Elaw23_TokenLines_1 s) (Hlaw23_TokenLines_1 s) = Rlaw23_TokenLines_1 K (Tlaw23_TokenLines_1 k) (fun s => r (Elaw23_TokenLines_1 s) (Hlaw23_TokenLines_1 s)) s := by
  cases s <;> kernel_rfl
theorem Olaw23_TokenLines_1.bind_k {β γ : Type} (o : Olaw23_TokenLines_1) (c0 : Bool → Bool → (List AV) → Int → Bool → (List AV) → ByteArray → Int → Int → Option β) (c1 : Bool → (List AV) → Int → Bool → (List AV) → ByteArray → Int → Int → Option β) (φ : β → Option γ) : (Olaw23_TokenLines_1.k o c0 c1).bind φ = Olaw23_TokenLines_1.k o (fun t4 l9n l9 k10 obj0_0_0n obj0_0_0 obj0_0_1 obj0_0_2 obj0_0_3 => (c0 t4 l9n l9 k10 obj0_0_0n obj0_0_0 obj0_0_1 obj0_0_2 obj0_0_3).bind φ) (fun l9n l9 k10 obj0_0_0n obj0_0_0 obj0_0_1 obj0_0_2 obj0_0_3 => (c1 l9n l9 k10 obj0_0_0n obj0_0_0 obj0_0_1 obj0_0_2 obj0_0_3).bind φ) := by cases o <;> rfl
theorem natlaw23_TokenLines_1 (K : PureK) {β γ : Type} (φ : β → Option γ) (d : Olaw23_TokenLines_1 → Option β) (r : Slaw23_TokenLines_1 → Option β) (s : Slaw23_TokenLines_1) : Rlaw23_TokenLines_1 K (fun o => (d o).bind φ) (fun s => (r s).bind φ) s = (Rlaw23_TokenLines_1 K d r s).bind φ := by
  cases s <;> simp only [Rlaw23_TokenLines_1, bind_optK, bind_br, bind_asInt, bind_asBool, bind_asStr, bind_asLst, bind_asAgg, bind_asTup, bind_asBig, bind_asErr, bind_none]
theorem outlaw23_TokenLines_1 (o : Olaw23_TokenLines_1) : ∃ x e' h', ∀ {β : Type} (k : Ex → Env → Heap → Option β), Tlaw23_TokenLines_1 k o = k x e' h' := by cases o <;> exact ⟨_, _, _, fun _ => rfl⟩
theorem oklaw23_TokenLines_1 {K : PureK} (llaw23_TokenLines_0 : Slaw23_TokenLines_0 → Option Olaw23_TokenLines_0) (hX : Sound (addLp X 4 7 (Flaw23_TokenLines_0 llaw23_TokenLines_0))) (hK : KOk X K) {llaw23_TokenLines_1 : Slaw23_TokenLines_1 → Option Olaw23_TokenLines_1} (hl : ∀ s o, llaw23_TokenLines_1 s = some o → ∃ m, fuelRec (Rlaw23_TokenLines_1 K some) m s = some o) (β : Type) (e : Env) (h : Heap) (k : Ex → Env → Heap → Option β) (r : β) (hr : (Flaw23_TokenLines_1 llaw23_TokenLines_1).run e h k = some r) : ∃ x e' h', k x e' h' = some r ∧ CodeAt (addLp X 4 7 (Flaw23_TokenLines_0 llaw23_TokenLines_0)) (.loop (loopBody ((addLp X 4 7 (Flaw23_TokenLines_0 llaw23_TokenLines_0))).P 4 1)) e h x e' h' := by
  obtain ⟨fn, c, hin⟩ := loopIn_of (X := (addLp X 4 7 (Flaw23_TokenLines_0 llaw23_TokenLines_0))) (f := 4) (i := 1) (key := 22) (by kernel_rfl)
  simp only [Flaw23_TokenLines_1] at hr
  split at hr
  · rename_i hlen
    have hlen := Nat.eq_of_beq_eq_true hlen
    split at hr
    · rename_i q0 q1 q8 q9 q10 q11
      obtain ⟨o, ho, hr⟩ := optK_some hr
      refine tell_ok hX (KOk.congr (X := X) (Y := (addLp X 4 7 (Flaw23_TokenLines_0 llaw23_TokenLines_0))) rfl rfl hK) hin (E := Elaw23_TokenLines_1) (H := Hlaw23_TokenLines_1) (R := fun d r => Rlaw23_TokenLines_1 K d r) (T := Tlaw23_TokenLines_1) (ts := [(1, 1, 0), (2, 1, 0), (3, 1, 0)]) (len := 1) (cl := cllaw23_TokenLines_1) (clo := clolaw23_TokenLines_1) (roundlaw23_TokenLines_1 K llaw23_TokenLines_0) (natlaw23_TokenLines_1 K) outlaw23_TokenLines_1 (hl _ _ ho) (cl0 := cllaw23_TokenLines_1) (ts0 := []) ?_ rfl (by kernel_rfl) (by kernel_rfl) hr
      rw [clear_lit e 196 hlen, show clearEnv cllaw23_TokenLines_1 ((List.range 196).map fun i => e.getD i .dead) = [e.getD 0 .dead, e.getD 1 .dead, .dead, .dead, .dead, .dead, .dead, .dead, e.getD 8 .dead, e.getD 9 .dead, e.getD 10 .dead, e.getD 11 .dead, .dead, .dead, .dead, .dead, .dead, .dead, .dead, .dead, .dead, .dead, .dead, .dead, .dead, .dead, .dead, .dead, .dead, .dead, .dead, .dead, .dead, .dead, .dead, .dead, .dead, .dead, .dead, .dead, .dead, .dead, .dead, .dead, .dead, .dead, .dead, .dead, .dead, .dead, .dead, .dead, .dead, .dead, .dead, .dead, .dead, .dead, .dead, .dead, .dead, .dead, .dead, .dead, .dead, .dead, .dead, .dead, .dead, .dead, .dead, .dead, .dead, .dead, .dead, .dead, .dead, .dead, .dead, .dead, .dead, .dead, .dead, .dead, .dead, .dead, .dead, .dead, .dead, .dead, .dead, .dead, .dead, .dead, .dead, .dead, .dead, .dead, .dead, .dead, .dead, .dead, .dead, .dead, .dead, .dead, .dead, .dead, .dead, .dead, .dead, .dead, .dead, .dead, .dead, .dead, .dead, .dead, .dead, .dead, .dead, .dead, .dead, .dead, .dead, .dead, .dead, .dead, .dead, .dead, .dead, .dead, .dead, .dead, .dead, .dead, .dead, .dead, .dead, .dead, .dead, .dead, .dead, .dead, .dead, .dead, .dead, .dead, .dead, .dead, .dead, .dead, .dead, .dead, .dead, .dead, .dead, .dead, .dead, .dead, .dead, .dead, .dead, .dead, .dead, .dead, .dead, .dead, .dead, .dead, .dead, .dead, .dead, .dead, .dead, .dead, .dead, .dead, .dead, .dead, .dead, .dead, .dead, .dead, .dead, .dead, .dead, .dead, .dead, .dead, .dead, .dead, .dead, .dead, .dead, .dead] from by kernel_rfl]; rw [q0, q1, q8, q9, q10, q11]
      kernel_rfl
    · cases hr
  · cases hr
inductive Slaw23_TokenLines_1b where
  | s0 (words0n : Bool) (words0 : List AV) (literals1n : Bool) (literals1 : List AV) (l9n : Bool) (l9 : List AV) (k10 : Int) (i11 : Int) (obj0 : List AV) (obj1_0_0n : Bool) (obj1_0_0 : List AV) (obj1_0_1 : ByteArray) (obj1_0_2 : Int) (obj1_0_3 : Int)

inductive Olaw23_TokenLines_1b where
  | x0 (t4 : Bool) (l9n : Bool) (l9 : List AV) (k10 : Int) (obj0 : List AV) (obj1_0_0n : Bool) (obj1_0_0 : List AV) (obj1_0_1 : ByteArray) (obj1_0_2 : Int) (obj1_0_3 : Int)
  | x1 (l9n : Bool) (l9 : List AV) (k10 : Int) (obj0 : List AV) (obj1_0_0n : Bool) (obj1_0_0 : List AV) (obj1_0_1 : ByteArray) (obj1_0_2 : Int) (obj1_0_3 : Int)

def Olaw23_TokenLines_1b.k {β : Type} (o : Olaw23_TokenLines_1b) (c0 : Bool → Bool → (List AV) → Int → (List AV) → Bool → (List AV) → ByteArray → Int → Int → Option β) (c1 : Bool → (List AV) → Int → (List AV) → Bool → (List AV) → ByteArray → Int → Int → Option β) : Option β := match o with
  | .x0 t4 l9n l9 k10 obj0 obj1_0_0n obj1_0_0 obj1_0_1 obj1_0_2 obj1_0_3 => c0 t4 l9n l9 k10 obj0 obj1_0_0n obj1_0_0 obj1_0_1 obj1_0_2 obj1_0_3
  | .x1 l9n l9 k10 obj0 obj1_0_0n obj1_0_0 obj1_0_1 obj1_0_2 obj1_0_3 => c1 l9n l9 k10 obj0 obj1_0_0n obj1_0_0 obj1_0_1 obj1_0_2 obj1_0_3

def Elaw23_TokenLines_1b : Slaw23_TokenLines_1b → Env
  | .s0 words0n words0 literals1n literals1 l9n l9 k10 i11 obj0 obj1_0_0n obj1_0_0 obj1_0_1 obj1_0_2 obj1_0_3 => [(.lst 1 words0n words0), (.lst 1 literals1n literals1), .dead, .dead, .dead, .dead, .dead, .dead, (.ptr 1 0 0 0), (.lst 2 l9n l9), (.v (.int .i64 k10)), (.v (.int .i64 i11)), .dead, .dead, .dead, .dead, .dead, .dead, .dead, .dead, .dead, .dead, .dead, .dead, .dead, .dead, .dead, .dead, .dead, .dead, .dead, .dead, .dead, .dead, .dead, .dead, .dead, .dead, .dead, .dead, .dead, .dead, .dead, .dead, .dead, .dead, .dead, .dead, .dead, .dead, .dead, .dead, .dead, .dead, .dead, .dead, .dead, .dead, .dead, .dead, .dead, .dead, .dead, .dead, .dead, .dead, .dead, .dead, .dead, .dead, .dead, .dead, .dead, .dead, .dead, .dead, .dead, .dead, .dead, .dead, .dead, .dead, .dead, .dead, .dead, .dead, .dead, .dead, .dead, .dead, .dead, .dead, .dead, .dead, .dead, .dead, .dead, .dead, .dead, .dead, .dead, .dead, .dead, .dead, .dead, .dead, .dead, .dead, .dead, .dead, .dead, .dead, .dead, .dead, .dead, .dead, .dead, .dead, .dead, .dead, .dead, .dead, .dead, .dead, .dead, .dead, .dead, .dead, .dead, .dead, .dead, .dead, .dead, .dead, .dead, .dead, .dead, .dead, .dead, .dead, .dead, .dead, .dead, .dead, .dead, .dead, .dead, .dead, .dead, .dead, .dead, .dead, .dead, .dead, .dead, .dead, .dead, .dead, .dead, .dead, .dead, .dead, .dead, .dead, .dead, .dead, .dead, .dead, .dead, .dead, .dead, .dead, .dead, .dead, .dead, .dead, .dead, .dead, .dead, .dead, .dead, .dead, .dead, .dead, .dead, .dead, .dead, .dead, .dead, .dead, .dead, .dead, .dead, .dead, .dead, .dead]

def Hlaw23_TokenLines_1b : Slaw23_TokenLines_1b → Heap
  | .s0 words0n words0 literals1n literals1 l9n l9 k10 i11 obj0 obj1_0_0n obj1_0_0 obj1_0_1 obj1_0_2 obj1_0_3 => [⟨obj0, 1, 0, false, false, 5, 1, none⟩, ⟨[(.agg [(.lst 1 obj1_0_0n obj1_0_0), (.v (.string obj1_0_1)), (.v (.int .i64 obj1_0_2)), (.v (.int .i64 obj1_0_3))])], 0, 0, true, true, 27, 4, none⟩]

def Tlaw23_TokenLines_1b {β : Type} (k : Ex → Env → Heap → Option β) (o : Olaw23_TokenLines_1b) : Option β := Olaw23_TokenLines_1b.k o (fun t4 l9n l9 k10 obj0 obj1_0_0n obj1_0_0 obj1_0_1 obj1_0_2 obj1_0_3 => k .ret [.dead, .dead, .dead, .dead, (.v (.bool t4)), .dead, .dead, .dead, (.ptr 1 0 0 0), (.lst 2 l9n l9), (.v (.int .i64 k10)), .dead, .dead, .dead, .dead, .dead, .dead, .dead, .dead, .dead, .dead, .dead, .dead, .dead, .dead, .dead, .dead, .dead, .dead, .dead, .dead, .dead, .dead, .dead, .dead, .dead, .dead, .dead, .dead, .dead, .dead, .dead, .dead, .dead, .dead, .dead, .dead, .dead, .dead, .dead, .dead, .dead, .dead, .dead, .dead, .dead, .dead, .dead, .dead, .dead, .dead, .dead, .dead, .dead, .dead, .dead, .dead, .dead, .dead, .dead, .dead, .dead, .dead, .dead, .dead, .dead, .dead, .dead, .dead, .dead, .dead, .dead, .dead, .dead, .dead, .dead, .dead, .dead, .dead, .dead, .dead, .dead, .dead, .dead, .dead, .dead, .dead, .dead, .dead, .dead, .dead, .dead, .dead, .dead, .dead, .dead, .dead, .dead, .dead, .dead, .dead, .dead, .dead, .dead, .dead, .dead, .dead, .dead, .dead, .dead, .dead, .dead, .dead, .dead, .dead, .dead, .dead, .dead, .dead, .dead, .dead, .dead, .dead, .dead, .dead, .dead, .dead, .dead, .dead, .dead, .dead, .dead, .dead, .dead, .dead, .dead, .dead, .dead, .dead, .dead, .dead, .dead, .dead, .dead, .dead, .dead, .dead, .dead, .dead, .dead, .dead, .dead, .dead, .dead, .dead, .dead, .dead, .dead, .dead, .dead, .dead, .dead, .dead, .dead, .dead, .dead, .dead, .dead, .dead, .dead, .dead, .dead, .dead, .dead, .dead, .dead, .dead, .dead, .dead, .dead, .dead, .dead, .dead, .dead, .dead, .dead] [⟨obj0, 1, 0, false, false, 5, 1, none⟩, ⟨[(.agg [(.lst 1 obj1_0_0n obj1_0_0), (.v (.string obj1_0_1)), (.v (.int .i64 obj1_0_2)), (.v (.int .i64 obj1_0_3))])], 0, 0, true, true, 27, 4, none⟩]) (fun l9n l9 k10 obj0 obj1_0_0n obj1_0_0 obj1_0_1 obj1_0_2 obj1_0_3 => k (.exit 2) [.dead, .dead, .dead, .dead, .dead, .dead, .dead, .dead, (.ptr 1 0 0 0), (.lst 2 l9n l9), (.v (.int .i64 k10)), .dead, .dead, .dead, .dead, .dead, .dead, .dead, .dead, .dead, .dead, .dead, .dead, .dead, .dead, .dead, .dead, .dead, .dead, .dead, .dead, .dead, .dead, .dead, .dead, .dead, .dead, .dead, .dead, .dead, .dead, .dead, .dead, .dead, .dead, .dead, .dead, .dead, .dead, .dead, .dead, .dead, .dead, .dead, .dead, .dead, .dead, .dead, .dead, .dead, .dead, .dead, .dead, .dead, .dead, .dead, .dead, .dead, .dead, .dead, .dead, .dead, .dead, .dead, .dead, .dead, .dead, .dead, .dead, .dead, .dead, .dead, .dead, .dead, .dead, .dead, .dead, .dead, .dead, .dead, .dead, .dead, .dead, .dead, .dead, .dead, .dead, .dead, .dead, .dead, .dead, .dead, .dead, .dead, .dead, .dead, .dead, .dead, .dead, .dead, .dead, .dead, .dead, .dead, .dead, .dead, .dead, .dead, .dead, .dead, .dead, .dead, .dead, .dead, .dead, .dead, .dead, .dead, .dead, .dead, .dead, .dead, .dead, .dead, .dead, .dead, .dead, .dead, .dead, .dead, .dead, .dead, .dead, .dead, .dead, .dead, .dead, .dead, .dead, .dead, .dead, .dead, .dead, .dead, .dead, .dead, .dead, .dead, .dead, .dead, .dead, .dead, .dead, .dead, .dead, .dead, .dead, .dead, .dead, .dead, .dead, .dead, .dead, .dead, .dead, .dead, .dead, .dead, .dead, .dead, .dead, .dead, .dead, .dead, .dead, .dead, .dead, .dead, .dead, .dead, .dead, .dead, .dead, .dead, .dead, .dead] [⟨obj0, 1, 0, false, false, 5, 1, none⟩, ⟨[(.agg [(.lst 1 obj1_0_0n obj1_0_0), (.v (.string obj1_0_1)), (.v (.int .i64 obj1_0_2)), (.v (.int .i64 obj1_0_3))])], 0, 0, true, true, 27, 4, none⟩])

def Flaw23_TokenLines_1b (llaw23_TokenLines_1 : Slaw23_TokenLines_1 → Option Olaw23_TokenLines_1) (llaw23_TokenLines_1b : Slaw23_TokenLines_1b → Option Olaw23_TokenLines_1b) : LoopF := ⟨fun e h k => match Nat.beq e.length 196 with
  | true => (match e.getD 0 .dead, e.getD 1 .dead, e.getD 8 .dead, e.getD 9 .dead, e.getD 10 .dead, e.getD 11 .dead, h with
    | (.lst 1 words0n words0), (.lst 1 literals1n literals1), (.ptr 1 0 0 0), (.lst 2 l9n l9), (.v (.int .i64 k10)), (.v (.int .i64 i11)), [⟨obj0, 1, 0, false, false, 5, 1, none⟩, ⟨[(.agg [(.lst 1 obj1_0_0n obj1_0_0), (.v (.string obj1_0_1)), (.v (.int .i64 obj1_0_2)), (.v (.int .i64 obj1_0_3))])], 0, 0, true, true, 27, 4, none⟩] => optK (llaw23_TokenLines_1b (.s0 words0n words0 literals1n literals1 l9n l9 k10 i11 obj0 obj1_0_0n obj1_0_0 obj1_0_1 obj1_0_2 obj1_0_3)) (Tlaw23_TokenLines_1b k)
    | _, _, _, _, _, _, _ => (Flaw23_TokenLines_1 llaw23_TokenLines_1).run e h k)
  | false => (Flaw23_TokenLines_1 llaw23_TokenLines_1).run e h k⟩

def cllaw23_TokenLines_1b : List Tmp := [2, 3, 4, 5, 6, 7, 12, 13, 14, 15, 16, 17, 18, 19, 20, 21, 22, 23, 24, 25, 26, 27, 28, 29, 30, 31, 32, 33, 34, 35, 36, 37, 38, 39, 40, 41, 42, 43, 44, 45, 46, 47, 48, 49, 50, 51, 52, 53, 54, 55, 56, 57, 58, 59, 60, 61, 62, 63, 64, 65, 66, 67, 68, 69, 70, 71, 72, 73, 74, 75, 76, 77, 78, 79, 80, 81, 82, 83, 84, 85, 86, 87, 88, 89, 90, 91, 92, 93, 94, 95, 96, 97, 98, 99, 100, 101, 102, 103, 104, 105, 106, 107, 108, 109, 110, 111, 112, 113, 114, 115, 116, 117, 118, 119, 120, 121, 122, 123, 124, 125, 126, 127, 128, 129, 130, 131, 132, 133, 134, 135, 136, 137, 138, 139, 140, 141, 142, 143, 144, 145, 146, 147, 148, 149, 150, 151, 152, 153, 154, 155, 156, 157, 158, 159, 160, 161, 162, 163, 164, 165, 166, 167, 168, 169, 170, 171, 172, 173, 174, 175, 176, 177, 178, 179, 180, 181, 182, 183, 184, 185, 186, 187, 188, 189, 190, 191, 192, 193, 194, 195]
def clolaw23_TokenLines_1b : List Tmp := [0, 1, 2, 3, 5, 6, 7, 11, 12, 13, 14, 15, 16, 17, 18, 19, 20, 21, 22, 23, 24, 25, 26, 27, 28, 29, 30, 31, 32, 33, 34, 35, 36, 37, 38, 39, 40, 41, 42, 43, 44, 45, 46, 47, 48, 49, 50, 51, 52, 53, 54, 55, 56, 57, 58, 59, 60, 61, 62, 63, 64, 65, 66, 67, 68, 69, 70, 71, 72, 73, 74, 75, 76, 77, 78, 79, 80, 81, 82, 83, 84, 85, 86, 87, 88, 89, 90, 91, 92, 93, 94, 95, 96, 97, 98, 99, 100, 101, 102, 103, 104, 105, 106, 107, 108, 109, 110, 111, 112, 113, 114, 115, 116, 117, 118, 119, 120, 121, 122, 123, 124, 125, 126, 127, 128, 129, 130, 131, 132, 133, 134, 135, 136, 137, 138, 139, 140, 141, 142, 143, 144, 145, 146, 147, 148, 149, 150, 151, 152, 153, 154, 155, 156, 157, 158, 159, 160, 161, 162, 163, 164, 165, 166, 167, 168, 169, 170, 171, 172, 173, 174, 175, 176, 177, 178, 179, 180, 181, 182, 183, 184, 185, 186, 187, 188, 189, 190, 191, 192, 193, 194, 195]

noncomputable def Rlaw23_TokenLines_1b {β : Type} (K : PureK) (d : Olaw23_TokenLines_1b → Option β) (r : Slaw23_TokenLines_1b → Option β) : Slaw23_TokenLines_1b → Option β
  | .s0 words0n words0 literals1n literals1 l9n l9 k10 i11 obj0 obj1_0_0n obj1_0_0 obj1_0_1 obj1_0_2 obj1_0_3 =>
    br (decide (i11 < ((words0.length : Nat) : Int)))
      (br (decide (i11 < ((literals1.length : Nat) : Int)))
        (optK (br (decide (k10 ≥ ((l9.length : Nat) : Int)))
            (some (bv true))
            (br (decide (0 ≤ k10))
              (br (decide (k10 < ((l9.length : Nat) : Int)))
                (optK l9[k10.toNat]? fun wv2 =>
                Ab.asAgg wv2 2 fun wg3 =>
                Ab.asInt (wg3 0) .i64 fun wn4 =>
                Ab.asLst (wg3 1) 1 fun wb5 wr5 =>
                some (bv (wn4 != 2)))
                (none))
              (none))) fun wv1 =>
        Ab.asBool wv1 fun wb6 =>
        br wb6
          (d (.x0 false l9n l9 k10 obj0 obj1_0_0n obj1_0_0 obj1_0_1 obj1_0_2 obj1_0_3))
          (optK (br (decide (w64 (k10 + 1) ≥ ((l9.length : Nat) : Int)))
              (some (bv true))
              (br (decide (0 ≤ w64 (k10 + 1)))
                (br (decide (w64 (k10 + 1) < ((l9.length : Nat) : Int)))
                  (optK (l9[(w64 (k10 + 1)).toNat]?) fun wv8 =>
                  Ab.asAgg wv8 2 fun wg9 =>
                  Ab.asInt (wg9 0) .i64 fun wn10 =>
                  Ab.asLst (wg9 1) 1 fun wb11 wr11 =>
                  some (bv (wn10 != 1)))
                  (none))
                (none))) fun wv7 =>
          Ab.asBool wv7 fun wb12 =>
          br wb12
            (d (.x0 false l9n l9 (w64 (k10 + 1)) obj0 obj1_0_0n obj1_0_0 obj1_0_1 obj1_0_2 obj1_0_3))
            (br (decide (0 ≤ w64 (k10 + 1)))
              (br (decide (w64 (k10 + 1) < ((l9.length : Nat) : Int)))
                (optK (l9[(w64 (k10 + 1)).toNat]?) fun wv13 =>
                Ab.asAgg wv13 2 fun wg14 =>
                Ab.asInt (wg14 0) .i64 fun wn15 =>
                Ab.asLst (wg14 1) 1 fun wb16 wr16 =>
                optK (br (decide (i11 < ((literals1.length : Nat) : Int)))
                    (br (((wr16.length : Nat) : Int) != 3)
                      (some (bv true))
                      (br (decide (0 < ((wr16.length : Nat) : Int)))
                        (optK wr16[0]? fun wv18 =>
                        Ab.asStr wv18 fun ws19 =>
                        br (decide (0 ≤ i11))
                          (br (decide (i11 < ((words0.length : Nat) : Int)))
                            (optK words0[i11.toNat]? fun wv20 =>
                            Ab.asStr wv20 fun ws21 =>
                            br ((ws21.size + 1).ble maxStr)
                              (br (!strEq ws19 (catStr ws21 ({ data := #[32] } : ByteArray)))
                                (some (bv true))
                                (br (decide (1 < ((wr16.length : Nat) : Int)))
                                  (optK wr16[1]? fun wv22 =>
                                  Ab.asStr wv22 fun ws23 =>
                                  br (decide (0 ≤ i11))
                                    (br (decide (i11 < ((literals1.length : Nat) : Int)))
                                      (optK literals1[i11.toNat]? fun wv24 =>
                                      Ab.asLst wv24 1 fun wb25 wr25 =>
                                      optK (rowsBytes wr25) fun wv26 =>
                                      br (!strEq ws23 ({ data := wv26.toArray } : ByteArray))
                                        (some (bv true))
                                        (br (decide (2 < ((wr16.length : Nat) : Int)))
                                          (optK wr16[2]? fun wv27 =>
                                          Ab.asStr wv27 fun ws28 =>
                                          br (!strEq ws28 ({ data := #[] } : ByteArray))
                                            (some (bv true))
                                            (br (decide (i11 ≥ ((literals1.length : Nat) : Int)))
                                              (br (((wr16.length : Nat) : Int) != 1)
                                                (some (bv true))
                                                (br (decide (0 < ((wr16.length : Nat) : Int)))
                                                  (optK wr16[0]? fun wv29 =>
                                                  Ab.asStr wv29 fun ws30 =>
                                                  br (decide (0 ≤ i11))
                                                    (br (decide (i11 < ((words0.length : Nat) : Int)))
                                                      (optK words0[i11.toNat]? fun wv31 =>
                                                      Ab.asStr wv31 fun ws32 =>
                                                      some (bv !strEq ws30 ws32))
                                                      (none))
                                                    (none))
                                                  (none)))
                                              (some (bv false))))
                                          (none)))
                                      (none))
                                    (none))
                                  (none)))
                              (none))
                            (none))
                          (none))
                        (none)))
                    (br (decide (i11 ≥ ((literals1.length : Nat) : Int)))
                      (br (((wr16.length : Nat) : Int) != 1)
                        (some (bv true))
                        (br (decide (0 < ((wr16.length : Nat) : Int)))
                          (optK wr16[0]? fun wv33 =>
                          Ab.asStr wv33 fun ws34 =>
                          br (decide (0 ≤ i11))
                            (br (decide (i11 < ((words0.length : Nat) : Int)))
                              (optK words0[i11.toNat]? fun wv35 =>
                              Ab.asStr wv35 fun ws36 =>
                              some (bv !strEq ws34 ws36))
                              (none))
                            (none))
                          (none)))
                      (some (bv false)))) fun wv17 =>
                Ab.asBool wv17 fun wb37 =>
                br wb37
                  (d (.x0 false l9n l9 (w64 (k10 + 1)) obj0 obj1_0_0n obj1_0_0 obj1_0_1 obj1_0_2 obj1_0_3))
                  (r (.s0 words0n words0 literals1n literals1 l9n l9 (w64 (w64 (k10 + 1) + 1)) (w64 (i11 + 1)) obj0 obj1_0_0n obj1_0_0 obj1_0_1 obj1_0_2 obj1_0_3)))
                (none))
              (none))))
        (optK (br (decide (k10 ≥ ((l9.length : Nat) : Int)))
            (some (bv true))
            (br (decide (0 ≤ k10))
              (br (decide (k10 < ((l9.length : Nat) : Int)))
                (optK l9[k10.toNat]? fun wv39 =>
                Ab.asAgg wv39 2 fun wg40 =>
                Ab.asInt (wg40 0) .i64 fun wn41 =>
                Ab.asLst (wg40 1) 1 fun wb42 wr42 =>
                some (bv (wn41 != 1)))
                (none))
              (none))) fun wv38 =>
        Ab.asBool wv38 fun wb43 =>
        br wb43
          (d (.x0 false l9n l9 k10 obj0 obj1_0_0n obj1_0_0 obj1_0_1 obj1_0_2 obj1_0_3))
          (br (decide (0 ≤ k10))
            (br (decide (k10 < ((l9.length : Nat) : Int)))
              (optK l9[k10.toNat]? fun wv44 =>
              Ab.asAgg wv44 2 fun wg45 =>
              Ab.asInt (wg45 0) .i64 fun wn46 =>
              Ab.asLst (wg45 1) 1 fun wb47 wr47 =>
              optK (br (decide (i11 < ((literals1.length : Nat) : Int)))
                  (br (((wr47.length : Nat) : Int) != 3)
                    (some (bv true))
                    (br (decide (0 < ((wr47.length : Nat) : Int)))
                      (optK wr47[0]? fun wv49 =>
                      Ab.asStr wv49 fun ws50 =>
                      br (decide (0 ≤ i11))
                        (br (decide (i11 < ((words0.length : Nat) : Int)))
                          (optK words0[i11.toNat]? fun wv51 =>
                          Ab.asStr wv51 fun ws52 =>
                          br ((ws52.size + 1).ble maxStr)
                            (br (!strEq ws50 (catStr ws52 ({ data := #[32] } : ByteArray)))
                              (some (bv true))
                              (br (decide (1 < ((wr47.length : Nat) : Int)))
                                (optK wr47[1]? fun wv53 =>
                                Ab.asStr wv53 fun ws54 =>
                                br (decide (0 ≤ i11))
                                  (br (decide (i11 < ((literals1.length : Nat) : Int)))
                                    (optK literals1[i11.toNat]? fun wv55 =>
                                    Ab.asLst wv55 1 fun wb56 wr56 =>
                                    optK (rowsBytes wr56) fun wv57 =>
                                    br (!strEq ws54 ({ data := wv57.toArray } : ByteArray))
                                      (some (bv true))
                                      (br (decide (2 < ((wr47.length : Nat) : Int)))
                                        (optK wr47[2]? fun wv58 =>
                                        Ab.asStr wv58 fun ws59 =>
                                        br (!strEq ws59 ({ data := #[] } : ByteArray))
                                          (some (bv true))
                                          (br (decide (i11 ≥ ((literals1.length : Nat) : Int)))
                                            (br (((wr47.length : Nat) : Int) != 1)
                                              (some (bv true))
                                              (br (decide (0 < ((wr47.length : Nat) : Int)))
                                                (optK wr47[0]? fun wv60 =>
                                                Ab.asStr wv60 fun ws61 =>
                                                br (decide (0 ≤ i11))
                                                  (br (decide (i11 < ((words0.length : Nat) : Int)))
                                                    (optK words0[i11.toNat]? fun wv62 =>
                                                    Ab.asStr wv62 fun ws63 =>
                                                    some (bv !strEq ws61 ws63))
                                                    (none))
                                                  (none))
                                                (none)))
                                            (some (bv false))))
                                        (none)))
                                    (none))
                                  (none))
                                (none)))
                            (none))
                          (none))
                        (none))
                      (none)))
                  (br (decide (i11 ≥ ((literals1.length : Nat) : Int)))
                    (br (((wr47.length : Nat) : Int) != 1)
                      (some (bv true))
                      (br (decide (0 < ((wr47.length : Nat) : Int)))
                        (optK wr47[0]? fun wv64 =>
                        Ab.asStr wv64 fun ws65 =>
                        br (decide (0 ≤ i11))
                          (br (decide (i11 < ((words0.length : Nat) : Int)))
                            (optK words0[i11.toNat]? fun wv66 =>
                            Ab.asStr wv66 fun ws67 =>
                            some (bv !strEq ws65 ws67))
                            (none))
                          (none))
                        (none)))
                    (some (bv false)))) fun wv48 =>
              Ab.asBool wv48 fun wb68 =>
              br wb68
                (d (.x0 false l9n l9 k10 obj0 obj1_0_0n obj1_0_0 obj1_0_1 obj1_0_2 obj1_0_3))
                (r (.s0 words0n words0 literals1n literals1 l9n l9 (w64 (k10 + 1)) (w64 (i11 + 1)) obj0 obj1_0_0n obj1_0_0 obj1_0_1 obj1_0_2 obj1_0_3)))
              (none))
            (none))))
      (d (.x1 l9n l9 k10 obj0 obj1_0_0n obj1_0_0 obj1_0_1 obj1_0_2 obj1_0_3))
theorem roundlaw23_TokenLines_1b (K : PureK) (llaw23_TokenLines_0 : Slaw23_TokenLines_0 → Option Olaw23_TokenLines_0) (llaw23_TokenLines_1 : Slaw23_TokenLines_1 → Option Olaw23_TokenLines_1) {β : Type} (r : Env → Heap → Option β) (k : Ex → Env → Heap → Option β) (s : Slaw23_TokenLines_1b) : tellOne (addLp (addLp X 4 7 (Flaw23_TokenLines_0 llaw23_TokenLines_0)) 4 22 (Flaw23_TokenLines_1 llaw23_TokenLines_1)) K 0 4 1 [(2, 1, 0), (3, 1, 0), (4, 1, 0)] 2 cllaw23_TokenLines_1b clolaw23_TokenLines_1b r k (Elaw23_TokenLines_1b s) (Hlaw23_TokenLines_1b s) = Rlaw23_TokenLines_1b K (Tlaw23_TokenLines_1b k) (fun s => r (Elaw23_TokenLines_1b s) (Hlaw23_TokenLines_1b s)) s := by
  cases s <;> kernel_rfl
theorem Olaw23_TokenLines_1b.bind_k {β γ : Type} (o : Olaw23_TokenLines_1b) (c0 : Bool → Bool → (List AV) → Int → (List AV) → Bool → (List AV) → ByteArray → Int → Int → Option β) (c1 : Bool → (List AV) → Int → (List AV) → Bool → (List AV) → ByteArray → Int → Int → Option β) (φ : β → Option γ) : (Olaw23_TokenLines_1b.k o c0 c1).bind φ = Olaw23_TokenLines_1b.k o (fun t4 l9n l9 k10 obj0 obj1_0_0n obj1_0_0 obj1_0_1 obj1_0_2 obj1_0_3 => (c0 t4 l9n l9 k10 obj0 obj1_0_0n obj1_0_0 obj1_0_1 obj1_0_2 obj1_0_3).bind φ) (fun l9n l9 k10 obj0 obj1_0_0n obj1_0_0 obj1_0_1 obj1_0_2 obj1_0_3 => (c1 l9n l9 k10 obj0 obj1_0_0n obj1_0_0 obj1_0_1 obj1_0_2 obj1_0_3).bind φ) := by cases o <;> rfl
theorem natlaw23_TokenLines_1b (K : PureK) {β γ : Type} (φ : β → Option γ) (d : Olaw23_TokenLines_1b → Option β) (r : Slaw23_TokenLines_1b → Option β) (s : Slaw23_TokenLines_1b) : Rlaw23_TokenLines_1b K (fun o => (d o).bind φ) (fun s => (r s).bind φ) s = (Rlaw23_TokenLines_1b K d r s).bind φ := by
  cases s <;> simp only [Rlaw23_TokenLines_1b, bind_optK, bind_br, bind_asInt, bind_asBool, bind_asStr, bind_asLst, bind_asAgg, bind_asTup, bind_asBig, bind_asErr, bind_none]
theorem outlaw23_TokenLines_1b (o : Olaw23_TokenLines_1b) : ∃ x e' h', ∀ {β : Type} (k : Ex → Env → Heap → Option β), Tlaw23_TokenLines_1b k o = k x e' h' := by cases o <;> exact ⟨_, _, _, fun _ => rfl⟩
theorem oklaw23_TokenLines_1b {K : PureK} (llaw23_TokenLines_0 : Slaw23_TokenLines_0 → Option Olaw23_TokenLines_0) (llaw23_TokenLines_1 : Slaw23_TokenLines_1 → Option Olaw23_TokenLines_1) (hX : Sound (addLp (addLp X 4 7 (Flaw23_TokenLines_0 llaw23_TokenLines_0)) 4 22 (Flaw23_TokenLines_1 llaw23_TokenLines_1))) (hK : KOk X K) {llaw23_TokenLines_1b : Slaw23_TokenLines_1b → Option Olaw23_TokenLines_1b} (hl : ∀ s o, llaw23_TokenLines_1b s = some o → ∃ m, fuelRec (Rlaw23_TokenLines_1b K some) m s = some o) (β : Type) (e : Env) (h : Heap) (k : Ex → Env → Heap → Option β) (r : β) (hr : (Flaw23_TokenLines_1b llaw23_TokenLines_1 llaw23_TokenLines_1b).run e h k = some r) : ∃ x e' h', k x e' h' = some r ∧ CodeAt (addLp (addLp X 4 7 (Flaw23_TokenLines_0 llaw23_TokenLines_0)) 4 22 (Flaw23_TokenLines_1 llaw23_TokenLines_1)) (.loop (loopBody ((addLp (addLp X 4 7 (Flaw23_TokenLines_0 llaw23_TokenLines_0)) 4 22 (Flaw23_TokenLines_1 llaw23_TokenLines_1))).P 4 1)) e h x e' h' := by
  obtain ⟨fn, c, hin⟩ := loopIn_of (X := (addLp (addLp X 4 7 (Flaw23_TokenLines_0 llaw23_TokenLines_0)) 4 22 (Flaw23_TokenLines_1 llaw23_TokenLines_1))) (f := 4) (i := 1) (key := 22) (by kernel_rfl)
  simp only [Flaw23_TokenLines_1b] at hr
  split at hr
  · rename_i hlen
    have hlen := Nat.eq_of_beq_eq_true hlen
    split at hr
    · rename_i q0 q1 q8 q9 q10 q11
      obtain ⟨o, ho, hr⟩ := optK_some hr
      refine tell_ok hX (KOk.congr (X := X) (Y := (addLp (addLp X 4 7 (Flaw23_TokenLines_0 llaw23_TokenLines_0)) 4 22 (Flaw23_TokenLines_1 llaw23_TokenLines_1))) rfl rfl hK) hin (E := Elaw23_TokenLines_1b) (H := Hlaw23_TokenLines_1b) (R := fun d r => Rlaw23_TokenLines_1b K d r) (T := Tlaw23_TokenLines_1b) (ts := [(2, 1, 0), (3, 1, 0), (4, 1, 0)]) (len := 2) (cl := cllaw23_TokenLines_1b) (clo := clolaw23_TokenLines_1b) (roundlaw23_TokenLines_1b K llaw23_TokenLines_0 llaw23_TokenLines_1) (natlaw23_TokenLines_1b K) outlaw23_TokenLines_1b (hl _ _ ho) (cl0 := cllaw23_TokenLines_1b) (ts0 := []) ?_ rfl (by kernel_rfl) (by kernel_rfl) hr
      rw [clear_lit e 196 hlen, show clearEnv cllaw23_TokenLines_1b ((List.range 196).map fun i => e.getD i .dead) = [e.getD 0 .dead, e.getD 1 .dead, .dead, .dead, .dead, .dead, .dead, .dead, e.getD 8 .dead, e.getD 9 .dead, e.getD 10 .dead, e.getD 11 .dead, .dead, .dead, .dead, .dead, .dead, .dead, .dead, .dead, .dead, .dead, .dead, .dead, .dead, .dead, .dead, .dead, .dead, .dead, .dead, .dead, .dead, .dead, .dead, .dead, .dead, .dead, .dead, .dead, .dead, .dead, .dead, .dead, .dead, .dead, .dead, .dead, .dead, .dead, .dead, .dead, .dead, .dead, .dead, .dead, .dead, .dead, .dead, .dead, .dead, .dead, .dead, .dead, .dead, .dead, .dead, .dead, .dead, .dead, .dead, .dead, .dead, .dead, .dead, .dead, .dead, .dead, .dead, .dead, .dead, .dead, .dead, .dead, .dead, .dead, .dead, .dead, .dead, .dead, .dead, .dead, .dead, .dead, .dead, .dead, .dead, .dead, .dead, .dead, .dead, .dead, .dead, .dead, .dead, .dead, .dead, .dead, .dead, .dead, .dead, .dead, .dead, .dead, .dead, .dead, .dead, .dead, .dead, .dead, .dead, .dead, .dead, .dead, .dead, .dead, .dead, .dead, .dead, .dead, .dead, .dead, .dead, .dead, .dead, .dead, .dead, .dead, .dead, .dead, .dead, .dead, .dead, .dead, .dead, .dead, .dead, .dead, .dead, .dead, .dead, .dead, .dead, .dead, .dead, .dead, .dead, .dead, .dead, .dead, .dead, .dead, .dead, .dead, .dead, .dead, .dead, .dead, .dead, .dead, .dead, .dead, .dead, .dead, .dead, .dead, .dead, .dead, .dead, .dead, .dead, .dead, .dead, .dead, .dead, .dead, .dead, .dead, .dead, .dead, .dead, .dead, .dead, .dead, .dead, .dead] from by kernel_rfl]; rw [q0, q1, q8, q9, q10, q11]
      kernel_rfl
    · exact hX.lp 4 fn c hin.hok hin.hfn hin.hbody _ (List.mem_of_getElem? hin.code) (Flaw23_TokenLines_1 llaw23_TokenLines_1) (by kernel_rfl) β _ _ k r hr
  · exact hX.lp 4 fn c hin.hok hin.hfn hin.hbody _ (List.mem_of_getElem? hin.code) (Flaw23_TokenLines_1 llaw23_TokenLines_1) (by kernel_rfl) β _ _ k r hr
noncomputable def Rlaw23_TokenLines (K : PureK) (llaw23_TokenLines_0 : Slaw23_TokenLines_0 → Option Olaw23_TokenLines_0) (llaw23_TokenLines_1 : Slaw23_TokenLines_1 → Option Olaw23_TokenLines_1) (llaw23_TokenLines_1b : Slaw23_TokenLines_1b → Option Olaw23_TokenLines_1b) (words0n : Bool) (words0 : List AV) (literals1n : Bool) (literals1 : List AV) : Option AV :=
  optK (K f_law23_alive []) fun wv47 =>
    Ab.asBool wv47 fun wb48 =>
    br (!wb48)
      (some (bv false))
      (br (decide (((words0.length : Nat) : Int) > 20))
        (some (bv true))
        (optK (llaw23_TokenLines_0 (Slaw23_TokenLines_0.s0 words0n words0 literals1n literals1 0)) fun wo49 => Olaw23_TokenLines_0.k wo49
          (fun (words0n_50 : Bool) (words0_50 : List AV) (literals1n_50 : Bool) (literals1_50 : List AV) (t4_50 : Bool) => some (bv t4_50))
          (fun (words0n_51 : Bool) (words0_51 : List AV) (literals1n_51 : Bool) (literals1_51 : List AV) (t4_51 : Bool) (obj0_51 : List AV) => some (bv t4_51))
          (fun (words0n_52 : Bool) (words0_52 : List AV) (literals1n_52 : Bool) (literals1_52 : List AV) => optK (K f_token_Feed [AV.agg [AV.lst 1 true [], sv ({ data := #[] } : ByteArray), iv 0, iv 0], AV.lst 1 true []]) fun wv53 =>
          Ab.asTup wv53 2 fun wg54 =>
          Ab.asAgg (wg54 0) 4 fun wg55 =>
          Ab.asLst (wg55 0) 1 fun wb56 wr56 =>
          Ab.asStr (wg55 1) fun ws57 =>
          Ab.asInt (wg55 2) .i64 fun wn58 =>
          Ab.asInt (wg55 3) .i64 fun wn59 =>
          Ab.asLst (wg54 1) 2 fun wb60 wr60 =>
          optK (llaw23_TokenLines_1 (Slaw23_TokenLines_1.s0 words0n_52 words0_52 literals1n_52 literals1_52 wb60 wr60 0 0 wb56 wr56 ws57 wn58 wn59)) fun wo61 => Olaw23_TokenLines_1.k wo61
            (fun (t4_62 : Bool) (l9n_62 : Bool) (l9_62 : List AV) (k10_62 : Int) (obj0_0_0n_62 : Bool) (obj0_0_0_62 : List AV) (obj0_0_1_62 : ByteArray) (obj0_0_2_62 : Int) (obj0_0_3_62 : Int) => some (bv t4_62))
            (fun (l9n_63 : Bool) (l9_63 : List AV) (k10_63 : Int) (obj0_0_0n_63 : Bool) (obj0_0_0_63 : List AV) (obj0_0_1_63 : ByteArray) (obj0_0_2_63 : Int) (obj0_0_3_63 : Int) => br (k10_63 == ((l9_63.length : Nat) : Int))
              (optK (K f_ref23_Same [AV.agg [AV.lst 1 obj0_0_0n_63 obj0_0_0_63, sv obj0_0_1_63, iv obj0_0_2_63, iv obj0_0_3_63], AV.agg [AV.lst 1 true [], sv ({ data := #[] } : ByteArray), iv 0, iv 0]]) fun wv64 =>
              Ab.asBool wv64 fun wb65 =>
              some (bv wb65))
              (some (bv false))))
          (fun (words0n_66 : Bool) (words0_66 : List AV) (literals1n_66 : Bool) (literals1_66 : List AV) (t4_66 : Bool) (obj0_66 : List AV) => some (bv t4_66))
          (fun (words0n_67 : Bool) (words0_67 : List AV) (literals1n_67 : Bool) (literals1_67 : List AV) (t4_67 : Bool) (obj0_67 : List AV) => some (bv t4_67))
          (fun (words0n_68 : Bool) (words0_68 : List AV) (literals1n_68 : Bool) (literals1_68 : List AV) (obj0_68 : List AV) => optK (K f_token_Feed [AV.agg [AV.lst 1 true [], sv ({ data := #[] } : ByteArray), iv 0, iv 0], AV.lst 1 false obj0_68]) fun wv69 =>
          Ab.asTup wv69 2 fun wg70 =>
          Ab.asAgg (wg70 0) 4 fun wg71 =>
          Ab.asLst (wg71 0) 1 fun wb72 wr72 =>
          Ab.asStr (wg71 1) fun ws73 =>
          Ab.asInt (wg71 2) .i64 fun wn74 =>
          Ab.asInt (wg71 3) .i64 fun wn75 =>
          Ab.asLst (wg70 1) 2 fun wb76 wr76 =>
          optK (llaw23_TokenLines_1b (Slaw23_TokenLines_1b.s0 words0n_68 words0_68 literals1n_68 literals1_68 wb76 wr76 0 0 obj0_68 wb72 wr72 ws73 wn74 wn75)) fun wo77 => Olaw23_TokenLines_1b.k wo77
            (fun (t4_78 : Bool) (l9n_78 : Bool) (l9_78 : List AV) (k10_78 : Int) (obj0_78 : List AV) (obj1_0_0n_78 : Bool) (obj1_0_0_78 : List AV) (obj1_0_1_78 : ByteArray) (obj1_0_2_78 : Int) (obj1_0_3_78 : Int) => some (bv t4_78))
            (fun (l9n_79 : Bool) (l9_79 : List AV) (k10_79 : Int) (obj0_79 : List AV) (obj1_0_0n_79 : Bool) (obj1_0_0_79 : List AV) (obj1_0_1_79 : ByteArray) (obj1_0_2_79 : Int) (obj1_0_3_79 : Int) => br (k10_79 == ((l9_79.length : Nat) : Int))
              (optK (K f_ref23_Same [AV.agg [AV.lst 1 obj1_0_0n_79 obj1_0_0_79, sv obj1_0_1_79, iv obj1_0_2_79, iv obj1_0_3_79], AV.agg [AV.lst 1 true [], sv ({ data := #[] } : ByteArray), iv 0, iv 0]]) fun wv80 =>
              Ab.asBool wv80 fun wb81 =>
              some (bv wb81))
              (some (bv false))))))
theorem toplaw23_TokenLines (K : PureK) (llaw23_TokenLines_0 : Slaw23_TokenLines_0 → Option Olaw23_TokenLines_0) (llaw23_TokenLines_1 : Slaw23_TokenLines_1 → Option Olaw23_TokenLines_1) (llaw23_TokenLines_1b : Slaw23_TokenLines_1b → Option Olaw23_TokenLines_1b) (words0n : Bool) (words0 : List AV) (literals1n : Bool) (literals1 : List AV) : topK (addLp (addLp (addLp X 4 7 (Flaw23_TokenLines_0 llaw23_TokenLines_0)) 4 22 (Flaw23_TokenLines_1 llaw23_TokenLines_1)) 4 22 (Flaw23_TokenLines_1b llaw23_TokenLines_1 llaw23_TokenLines_1b)) K 0 f_law23_TokenLines [(.lst 1 words0n words0), (.lst 1 literals1n literals1)] = Rlaw23_TokenLines K llaw23_TokenLines_0 llaw23_TokenLines_1 llaw23_TokenLines_1b words0n words0 literals1n literals1 := by kernel_rfl
theorem pclaw23_TokenLines {K : PureK} (hK : KOk X K) {llaw23_TokenLines_0 : Slaw23_TokenLines_0 → Option Olaw23_TokenLines_0} {llaw23_TokenLines_1 : Slaw23_TokenLines_1 → Option Olaw23_TokenLines_1} {llaw23_TokenLines_1b : Slaw23_TokenLines_1b → Option Olaw23_TokenLines_1b} (hlaw23_TokenLines_0 : ∀ s o, llaw23_TokenLines_0 s = some o → ∃ m, fuelRec (Rlaw23_TokenLines_0 K some) m s = some o) (hlaw23_TokenLines_1 : ∀ s o, llaw23_TokenLines_1 s = some o → ∃ m, fuelRec (Rlaw23_TokenLines_1 K some) m s = some o) (hlaw23_TokenLines_1b : ∀ s o, llaw23_TokenLines_1b s = some o → ∃ m, fuelRec (Rlaw23_TokenLines_1b K some) m s = some o) {words0n : Bool} {words0 : List AV} {literals1n : Bool} {literals1 : List AV} {v : AV} (h : Rlaw23_TokenLines K llaw23_TokenLines_0 llaw23_TokenLines_1 llaw23_TokenLines_1b words0n words0 literals1n literals1 = some v) : PureCall X f_law23_TokenLines [(.lst 1 words0n words0), (.lst 1 literals1n literals1)] v := by
  have hSo0 := soundX
  obtain ⟨_, _, hin0⟩ := loopIn_of (X := X) (f := 4) (i := 0) (key := 7) (by kernel_rfl)
  have hSo1 := sound_add hSo0 hin0 (oklaw23_TokenLines_0 hSo0 hK hlaw23_TokenLines_0)
  obtain ⟨_, _, hin1⟩ := loopIn_of (X := (addLp X 4 7 (Flaw23_TokenLines_0 llaw23_TokenLines_0))) (f := 4) (i := 1) (key := 22) (by kernel_rfl)
  have hSo2 := sound_add hSo1 hin1 (oklaw23_TokenLines_1 llaw23_TokenLines_0 hSo1 hK hlaw23_TokenLines_1)
  obtain ⟨_, _, hin2⟩ := loopIn_of (X := (addLp (addLp X 4 7 (Flaw23_TokenLines_0 llaw23_TokenLines_0)) 4 22 (Flaw23_TokenLines_1 llaw23_TokenLines_1))) (f := 4) (i := 1) (key := 22) (by kernel_rfl)
  have hSo3 := sound_add hSo2 hin2 (oklaw23_TokenLines_1b llaw23_TokenLines_0 llaw23_TokenLines_1 hSo2 hK hlaw23_TokenLines_1b)
  exact tell_top (X := X) (Y := (addLp (addLp (addLp X 4 7 (Flaw23_TokenLines_0 llaw23_TokenLines_0)) 4 22 (Flaw23_TokenLines_1 llaw23_TokenLines_1)) 4 22 (Flaw23_TokenLines_1b llaw23_TokenLines_1 llaw23_TokenLines_1b))) rfl rfl hSo3 hK ((toplaw23_TokenLines K llaw23_TokenLines_0 llaw23_TokenLines_1 llaw23_TokenLines_1b words0n words0 literals1n literals1).trans h)


/-! 6: escheat/escheatlaw23.TokenLiterals -/
noncomputable def Rlaw23_TokenLiterals (K : PureK) (b0n : Bool) (b0 : List AV) (tag1 : ByteArray) : Option AV :=
  optK (K f_law23_alive []) fun wv1 =>
    Ab.asBool wv1 fun wb2 =>
    br (!wb2)
      (some (bv false))
      (optK (br (decide (((b0.length : Nat) : Int) > 2000))
          (some (bv true))
          (optK (K f_law23_plain [sv tag1]) fun wv4 =>
          Ab.asBool wv4 fun wb5 =>
          some (bv !wb5))) fun wv3 =>
      Ab.asBool wv3 fun wb6 =>
      br wb6
        (some (bv true))
        (br ((tag1.size + 2).ble maxStr)
          (br (((catStr tag1 ({ data := #[32, 123] } : ByteArray)).size + ({ data := [UInt8.ofNat (w8 (w64 (48 + (((b0.length : Nat) : Int)).tmod 10))).toNat, UInt8.ofNat (w8 (w64 (48 + (w64 ((((b0.length : Nat) : Int)).tdiv 10)).tmod 10))).toNat, UInt8.ofNat (w8 (w64 (48 + (w64 ((((b0.length : Nat) : Int)).tdiv 100)).tmod 10))).toNat, UInt8.ofNat (w8 (w64 (48 + w64 ((((b0.length : Nat) : Int)).tdiv 1000)))).toNat].reverse.toArray } : ByteArray).size).ble maxStr)
            (br (((catStr (catStr tag1 ({ data := #[32, 123] } : ByteArray)) ({ data := [UInt8.ofNat (w8 (w64 (48 + (((b0.length : Nat) : Int)).tmod 10))).toNat, UInt8.ofNat (w8 (w64 (48 + (w64 ((((b0.length : Nat) : Int)).tdiv 10)).tmod 10))).toNat, UInt8.ofNat (w8 (w64 (48 + (w64 ((((b0.length : Nat) : Int)).tdiv 100)).tmod 10))).toNat, UInt8.ofNat (w8 (w64 (48 + w64 ((((b0.length : Nat) : Int)).tdiv 1000)))).toNat].reverse.toArray } : ByteArray)).size + 2).ble maxStr)
              (br (lenOk ((bytesRows (catStr (catStr (catStr tag1 ({ data := #[32, 123] } : ByteArray)) ({ data := [UInt8.ofNat (w8 (w64 (48 + (((b0.length : Nat) : Int)).tmod 10))).toNat, UInt8.ofNat (w8 (w64 (48 + (w64 ((((b0.length : Nat) : Int)).tdiv 10)).tmod 10))).toNat, UInt8.ofNat (w8 (w64 (48 + (w64 ((((b0.length : Nat) : Int)).tdiv 100)).tmod 10))).toNat, UInt8.ofNat (w8 (w64 (48 + w64 ((((b0.length : Nat) : Int)).tdiv 1000)))).toNat].reverse.toArray } : ByteArray)) ({ data := #[125, 10] } : ByteArray))).length + b0.length) 1 && lenOk ((bytesRows (catStr (catStr (catStr tag1 ({ data := #[32, 123] } : ByteArray)) ({ data := [UInt8.ofNat (w8 (w64 (48 + (((b0.length : Nat) : Int)).tmod 10))).toNat, UInt8.ofNat (w8 (w64 (48 + (w64 ((((b0.length : Nat) : Int)).tdiv 10)).tmod 10))).toNat, UInt8.ofNat (w8 (w64 (48 + (w64 ((((b0.length : Nat) : Int)).tdiv 100)).tmod 10))).toNat, UInt8.ofNat (w8 (w64 (48 + w64 ((((b0.length : Nat) : Int)).tdiv 1000)))).toNat].reverse.toArray } : ByteArray)) ({ data := #[125, 10] } : ByteArray))).length + b0.length) 1)
                (br (lenOk ((bytesRows (catStr (catStr (catStr tag1 ({ data := #[32, 123] } : ByteArray)) ({ data := [UInt8.ofNat (w8 (w64 (48 + (((b0.length : Nat) : Int)).tmod 10))).toNat, UInt8.ofNat (w8 (w64 (48 + (w64 ((((b0.length : Nat) : Int)).tdiv 10)).tmod 10))).toNat, UInt8.ofNat (w8 (w64 (48 + (w64 ((((b0.length : Nat) : Int)).tdiv 100)).tmod 10))).toNat, UInt8.ofNat (w8 (w64 (48 + w64 ((((b0.length : Nat) : Int)).tdiv 1000)))).toNat].reverse.toArray } : ByteArray)) ({ data := #[125, 10] } : ByteArray)) ++ b0).length + 3) 1 && lenOk ((bytesRows (catStr (catStr (catStr tag1 ({ data := #[32, 123] } : ByteArray)) ({ data := [UInt8.ofNat (w8 (w64 (48 + (((b0.length : Nat) : Int)).tmod 10))).toNat, UInt8.ofNat (w8 (w64 (48 + (w64 ((((b0.length : Nat) : Int)).tdiv 10)).tmod 10))).toNat, UInt8.ofNat (w8 (w64 (48 + (w64 ((((b0.length : Nat) : Int)).tdiv 100)).tmod 10))).toNat, UInt8.ofNat (w8 (w64 (48 + w64 ((((b0.length : Nat) : Int)).tdiv 1000)))).toNat].reverse.toArray } : ByteArray)) ({ data := #[125, 10] } : ByteArray)) ++ b0).length + 3) 1)
                  (optK (K f_token_Feed [AV.agg [AV.lst 1 true [], sv ({ data := #[] } : ByteArray), iv 0, iv 0], AV.lst 1 false (bytesRows (catStr (catStr (catStr tag1 ({ data := #[32, 123] } : ByteArray)) ({ data := [UInt8.ofNat (w8 (w64 (48 + (((b0.length : Nat) : Int)).tmod 10))).toNat, UInt8.ofNat (w8 (w64 (48 + (w64 ((((b0.length : Nat) : Int)).tdiv 10)).tmod 10))).toNat, UInt8.ofNat (w8 (w64 (48 + (w64 ((((b0.length : Nat) : Int)).tdiv 100)).tmod 10))).toNat, UInt8.ofNat (w8 (w64 (48 + w64 ((((b0.length : Nat) : Int)).tdiv 1000)))).toNat].reverse.toArray } : ByteArray)) ({ data := #[125, 10] } : ByteArray)) ++ b0 ++ [uv 32, uv 120, uv 10])]) fun wv7 =>
                  Ab.asTup wv7 2 fun wg8 =>
                  Ab.asAgg (wg8 0) 4 fun wg9 =>
                  Ab.asLst (wg9 0) 1 fun wb10 wr10 =>
                  Ab.asStr (wg9 1) fun ws11 =>
                  Ab.asInt (wg9 2) .i64 fun wn12 =>
                  Ab.asInt (wg9 3) .i64 fun wn13 =>
                  Ab.asLst (wg8 1) 2 fun wb14 wr14 =>
                  br (((wr14.length : Nat) : Int) == 2)
                    (br (decide (0 < ((wr14.length : Nat) : Int)))
                      (optK wr14[0]? fun wv15 =>
                      Ab.asAgg wv15 2 fun wg16 =>
                      Ab.asInt (wg16 0) .i64 fun wn17 =>
                      Ab.asLst (wg16 1) 1 fun wb18 wr18 =>
                      br (wn17 == 2)
                        (br (decide (1 < ((wr14.length : Nat) : Int)))
                          (optK wr14[1]? fun wv19 =>
                          Ab.asAgg wv19 2 fun wg20 =>
                          Ab.asInt (wg20 0) .i64 fun wn21 =>
                          Ab.asLst (wg20 1) 1 fun wb22 wr22 =>
                          br (wn21 == 1)
                            (br (decide (1 < ((wr14.length : Nat) : Int)))
                              (optK wr14[1]? fun wv23 =>
                              Ab.asAgg wv23 2 fun wg24 =>
                              Ab.asInt (wg24 0) .i64 fun wn25 =>
                              Ab.asLst (wg24 1) 1 fun wb26 wr26 =>
                              br (((wr26.length : Nat) : Int) == 3)
                                (br (decide (1 < ((wr14.length : Nat) : Int)))
                                  (optK wr14[1]? fun wv27 =>
                                  Ab.asAgg wv27 2 fun wg28 =>
                                  Ab.asInt (wg28 0) .i64 fun wn29 =>
                                  Ab.asLst (wg28 1) 1 fun wb30 wr30 =>
                                  br (decide (0 < ((wr30.length : Nat) : Int)))
                                    (optK wr30[0]? fun wv31 =>
                                    Ab.asStr wv31 fun ws32 =>
                                    br ((tag1.size + 1).ble maxStr)
                                      (br (strEq ws32 (catStr tag1 ({ data := #[32] } : ByteArray)))
                                        (br (decide (1 < ((wr14.length : Nat) : Int)))
                                          (optK wr14[1]? fun wv33 =>
                                          Ab.asAgg wv33 2 fun wg34 =>
                                          Ab.asInt (wg34 0) .i64 fun wn35 =>
                                          Ab.asLst (wg34 1) 1 fun wb36 wr36 =>
                                          br (decide (1 < ((wr36.length : Nat) : Int)))
                                            (optK wr36[1]? fun wv37 =>
                                            Ab.asStr wv37 fun ws38 =>
                                            optK (rowsBytes b0) fun wv39 =>
                                            br (strEq ws38 ({ data := wv39.toArray } : ByteArray))
                                              (br (decide (1 < ((wr14.length : Nat) : Int)))
                                                (optK wr14[1]? fun wv40 =>
                                                Ab.asAgg wv40 2 fun wg41 =>
                                                Ab.asInt (wg41 0) .i64 fun wn42 =>
                                                Ab.asLst (wg41 1) 1 fun wb43 wr43 =>
                                                br (decide (2 < ((wr43.length : Nat) : Int)))
                                                  (optK wr43[2]? fun wv44 =>
                                                  Ab.asStr wv44 fun ws45 =>
                                                  br (strEq ws45 ({ data := #[32, 120] } : ByteArray))
                                                    (optK (K f_ref23_Same [AV.agg [AV.lst 1 wb10 wr10, sv ws11, iv wn12, iv wn13], AV.agg [AV.lst 1 true [], sv ({ data := #[] } : ByteArray), iv 0, iv 0]]) fun wv46 =>
                                                    Ab.asBool wv46 fun wb47 =>
                                                    some (bv wb47))
                                                    (some (bv false)))
                                                  (none))
                                                (none))
                                              (some (bv false)))
                                            (none))
                                          (none))
                                        (some (bv false)))
                                      (none))
                                    (none))
                                  (none))
                                (some (bv false)))
                              (none))
                            (some (bv false)))
                          (none))
                        (some (bv false)))
                      (none))
                    (some (bv false)))
                  (none))
                (none))
              (none))
            (none))
          (none)))
theorem toplaw23_TokenLiterals (K : PureK) (b0n : Bool) (b0 : List AV) (tag1 : ByteArray) : topK X K 0 f_law23_TokenLiterals [(.lst 1 b0n b0), (.v (.string tag1))] = Rlaw23_TokenLiterals K b0n b0 tag1 := by kernel_rfl
theorem pclaw23_TokenLiterals {K : PureK} (hK : KOk X K) {b0n : Bool} {b0 : List AV} {tag1 : ByteArray} {v : AV} (h : Rlaw23_TokenLiterals K b0n b0 tag1 = some v) : PureCall X f_law23_TokenLiterals [(.lst 1 b0n b0), (.v (.string tag1))] v := by
  have hSo0 := soundX
  exact tell_top (X := X) (Y := X) rfl rfl hSo0 hK ((toplaw23_TokenLiterals K b0n b0 tag1).trans h)

end Go.Proofs.YtphbfkncimifoaaDoor
