import Derived.Test.YtmiffikcnkgcpaaDoorCtx
set_option maxRecDepth 100000
set_option linter.unusedVariables false
set_option linter.unusedSimpArgs false
namespace Go.Proofs.YtmiffikcnkgcpaaDoor
open Go Go.Ab
/-! 28: strings.EqualFold -/
inductive Sstrings_EqualFold_0 where
  | s0 (s0 : ByteArray) (t1 : ByteArray) (i5 : Int) (n6 : Int)

inductive Ostrings_EqualFold_0 where
  | x0 (s0 : ByteArray) (t1 : ByteArray) (i5 : Int)
  | x1 (s0 : ByteArray) (t1 : ByteArray) (t4 : Bool) (i5 : Int)
  | x2 (s0 : ByteArray) (t1 : ByteArray) (i5 : Int)

def Ostrings_EqualFold_0.k {β : Type} (o : Ostrings_EqualFold_0) (c0 : ByteArray → ByteArray → Int → Option β) (c1 : ByteArray → ByteArray → Bool → Int → Option β) (c2 : ByteArray → ByteArray → Int → Option β) : Option β := match o with
  | .x0 s0 t1 i5 => c0 s0 t1 i5
  | .x1 s0 t1 t4 i5 => c1 s0 t1 t4 i5
  | .x2 s0 t1 i5 => c2 s0 t1 i5

def Estrings_EqualFold_0 : Sstrings_EqualFold_0 → Env
  | .s0 s0 t1 i5 n6 => [(.v (.string s0)), (.v (.string t1)), .dead, .dead, .dead, (.v (.int .i64 i5)), (.v (.int .i64 n6)), .dead, .dead, .dead, .dead, .dead, .dead, .dead, .dead, .dead, .dead, .dead, .dead, .dead, .dead, .dead, .dead, .dead, .dead, .dead, .dead, .dead, .dead, .dead, .dead, .dead, .dead, .dead, .dead, .dead, .dead, .dead, .dead, .dead, .dead, .dead, .dead, .dead, .dead, .dead, .dead, .dead, .dead, .dead, .dead, .dead, .dead, .dead, .dead, .dead, .dead, .dead, .dead, .dead, .dead, .dead, .dead, .dead, .dead, .dead, .dead, .dead, .dead, .dead, .dead, .dead, .dead, .dead, .dead, .dead, .dead, .dead, .dead, .dead, .dead, .dead, .dead, .dead, .dead, .dead, .dead, .dead, .dead, .dead, .dead, .dead, .dead, .dead, .dead, .dead, .dead, .dead, .dead, .dead, .dead, .dead, .dead, .dead, .dead, .dead, .dead, .dead, .dead, .dead, .dead, .dead, .dead, .dead, .dead, .dead, .dead, .dead, .dead, .dead, .dead, .dead, .dead]

def Hstrings_EqualFold_0 : Sstrings_EqualFold_0 → Heap
  | .s0 s0 t1 i5 n6 => []

def Tstrings_EqualFold_0 {β : Type} (k : Ex → Env → Heap → Option β) (o : Ostrings_EqualFold_0) : Option β := Ostrings_EqualFold_0.k o (fun s0 t1 i5 => k (.goto 0) [(.v (.string s0)), (.v (.string t1)), .dead, .dead, .dead, (.v (.int .i64 i5)), .dead, .dead, .dead, .dead, .dead, .dead, .dead, .dead, .dead, .dead, .dead, .dead, .dead, .dead, .dead, .dead, .dead, .dead, .dead, .dead, .dead, .dead, .dead, .dead, .dead, .dead, .dead, .dead, .dead, .dead, .dead, .dead, .dead, .dead, .dead, .dead, .dead, .dead, .dead, .dead, .dead, .dead, .dead, .dead, .dead, .dead, .dead, .dead, .dead, .dead, .dead, .dead, .dead, .dead, .dead, .dead, .dead, .dead, .dead, .dead, .dead, .dead, .dead, .dead, .dead, .dead, .dead, .dead, .dead, .dead, .dead, .dead, .dead, .dead, .dead, .dead, .dead, .dead, .dead, .dead, .dead, .dead, .dead, .dead, .dead, .dead, .dead, .dead, .dead, .dead, .dead, .dead, .dead, .dead, .dead, .dead, .dead, .dead, .dead, .dead, .dead, .dead, .dead, .dead, .dead, .dead, .dead, .dead, .dead, .dead, .dead, .dead, .dead, .dead, .dead, .dead, .dead] []) (fun s0 t1 t4 i5 => k .ret [(.v (.string s0)), (.v (.string t1)), .dead, .dead, (.v (.bool t4)), (.v (.int .i64 i5)), .dead, .dead, .dead, .dead, .dead, .dead, .dead, .dead, .dead, .dead, .dead, .dead, .dead, .dead, .dead, .dead, .dead, .dead, .dead, .dead, .dead, .dead, .dead, .dead, .dead, .dead, .dead, .dead, .dead, .dead, .dead, .dead, .dead, .dead, .dead, .dead, .dead, .dead, .dead, .dead, .dead, .dead, .dead, .dead, .dead, .dead, .dead, .dead, .dead, .dead, .dead, .dead, .dead, .dead, .dead, .dead, .dead, .dead, .dead, .dead, .dead, .dead, .dead, .dead, .dead, .dead, .dead, .dead, .dead, .dead, .dead, .dead, .dead, .dead, .dead, .dead, .dead, .dead, .dead, .dead, .dead, .dead, .dead, .dead, .dead, .dead, .dead, .dead, .dead, .dead, .dead, .dead, .dead, .dead, .dead, .dead, .dead, .dead, .dead, .dead, .dead, .dead, .dead, .dead, .dead, .dead, .dead, .dead, .dead, .dead, .dead, .dead, .dead, .dead, .dead, .dead, .dead] []) (fun s0 t1 i5 => k (.exit 0) [(.v (.string s0)), (.v (.string t1)), .dead, .dead, .dead, (.v (.int .i64 i5)), .dead, .dead, .dead, .dead, .dead, .dead, .dead, .dead, .dead, .dead, .dead, .dead, .dead, .dead, .dead, .dead, .dead, .dead, .dead, .dead, .dead, .dead, .dead, .dead, .dead, .dead, .dead, .dead, .dead, .dead, .dead, .dead, .dead, .dead, .dead, .dead, .dead, .dead, .dead, .dead, .dead, .dead, .dead, .dead, .dead, .dead, .dead, .dead, .dead, .dead, .dead, .dead, .dead, .dead, .dead, .dead, .dead, .dead, .dead, .dead, .dead, .dead, .dead, .dead, .dead, .dead, .dead, .dead, .dead, .dead, .dead, .dead, .dead, .dead, .dead, .dead, .dead, .dead, .dead, .dead, .dead, .dead, .dead, .dead, .dead, .dead, .dead, .dead, .dead, .dead, .dead, .dead, .dead, .dead, .dead, .dead, .dead, .dead, .dead, .dead, .dead, .dead, .dead, .dead, .dead, .dead, .dead, .dead, .dead, .dead, .dead, .dead, .dead, .dead, .dead, .dead, .dead] [])

def Fstrings_EqualFold_0 (lstrings_EqualFold_0 : Sstrings_EqualFold_0 → Option Ostrings_EqualFold_0) : LoopF := ⟨fun e h k => match Nat.beq e.length 123 with
  | true => (match e.getD 0 .dead, e.getD 1 .dead, e.getD 5 .dead, e.getD 6 .dead, h with
    | (.v (.string s0)), (.v (.string t1)), (.v (.int .i64 i5)), (.v (.int .i64 n6)), [] => optK (lstrings_EqualFold_0 (.s0 s0 t1 i5 n6)) (Tstrings_EqualFold_0 k)
    | _, _, _, _, _ => none)
  | false => none⟩

def clstrings_EqualFold_0 : List Tmp := [2, 3, 4, 7, 8, 9, 10, 11, 12, 13, 14, 15, 16, 17, 18, 19, 20, 21, 22, 23, 24, 25, 26, 27, 28, 29, 30, 31, 32, 33, 34, 35, 36, 37, 38, 39, 40, 41, 42, 43, 44, 45, 46, 47, 48, 49, 50, 51, 52, 53, 54, 55, 56, 57, 58, 59, 60, 61, 62, 63, 64, 65, 66, 67, 68, 69, 70, 71, 72, 73, 74, 75, 76, 77, 78, 79, 80, 81, 82, 83, 84, 85, 86, 87, 88, 89, 90, 91, 92, 93, 94, 95, 96, 97, 98, 99, 100, 101, 102, 103, 104, 105, 106, 107, 108, 109, 110, 111, 112, 113, 114, 115, 116, 117, 118, 119, 120, 121, 122]
def clostrings_EqualFold_0 : List Tmp := [2, 3, 6, 7, 8, 9, 10, 11, 12, 13, 14, 15, 16, 17, 18, 19, 20, 21, 22, 23, 24, 25, 26, 27, 28, 29, 30, 31, 32, 33, 34, 35, 36, 37, 38, 39, 40, 41, 42, 43, 44, 45, 46, 47, 48, 49, 50, 51, 52, 53, 54, 55, 56, 57, 58, 59, 60, 61, 62, 63, 64, 65, 66, 67, 68, 69, 70, 71, 72, 73, 74, 75, 76, 77, 78, 79, 80, 81, 82, 83, 84, 85, 86, 87, 88, 89, 90, 91, 92, 93, 94, 95, 96, 97, 98, 99, 100, 101, 102, 103, 104, 105, 106, 107, 108, 109, 110, 111, 112, 113, 114, 115, 116, 117, 118, 119, 120, 121, 122]

noncomputable def Rstrings_EqualFold_0 {β : Type} (K : PureK) (d : Ostrings_EqualFold_0 → Option β) (r : Sstrings_EqualFold_0 → Option β) : Sstrings_EqualFold_0 → Option β
  | .s0 s0 t1 i5 n6 =>
    br (decide (i5 < n6))
      (br (decide (0 ≤ i5))
        (br (decide (i5 < ((s0.size : Nat) : Int)))
          (br (decide (0 ≤ i5))
            (br (decide (i5 < ((t1.size : Nat) : Int)))
              (br (decide (w8 ((((BitVec.ofInt 8 (bt s0 i5.toNat) ||| BitVec.ofInt 8 (bt t1 i5.toNat)).toNat : Nat) : Int)) ≥ 128))
                (d (.x0 s0 t1 i5))
                (br (bt t1 i5.toNat == bt s0 i5.toNat)
                  (r (.s0 s0 t1 (w64 (i5 + 1)) n6))
                  (br (decide (bt t1 i5.toNat < bt s0 i5.toNat))
                    (optK (br (decide (65 ≤ bt t1 i5.toNat))
                        (br (decide (bt t1 i5.toNat ≤ 90))
                          (some (bv (bt s0 i5.toNat == w8 (w8 (bt t1 i5.toNat + 97) - 65))))
                          (some (bv false)))
                        (some (bv false))) fun wv1 =>
                    Ab.asBool wv1 fun wb2 =>
                    br wb2
                      (r (.s0 s0 t1 (w64 (i5 + 1)) n6))
                      (d (.x1 s0 t1 false i5)))
                    (optK (br (decide (65 ≤ bt s0 i5.toNat))
                        (br (decide (bt s0 i5.toNat ≤ 90))
                          (some (bv (bt t1 i5.toNat == w8 (w8 (bt s0 i5.toNat + 97) - 65))))
                          (some (bv false)))
                        (some (bv false))) fun wv3 =>
                    Ab.asBool wv3 fun wb4 =>
                    br wb4
                      (r (.s0 s0 t1 (w64 (i5 + 1)) n6))
                      (d (.x1 s0 t1 false i5))))))
              (none))
            (none))
          (none))
        (none))
      (d (.x2 s0 t1 i5))
theorem roundstrings_EqualFold_0 (K : PureK) {β : Type} (r : Env → Heap → Option β) (k : Ex → Env → Heap → Option β) (s : Sstrings_EqualFold_0) : tellOne X K 0 28 0 [(0, 1, 0), (1, 1, 0), (2, 1, 0)] 0 clstrings_EqualFold_0 clostrings_EqualFold_0 r k (Estrings_EqualFold_0 s) (Hstrings_EqualFold_0 s) = Rstrings_EqualFold_0 K (Tstrings_EqualFold_0 k) (fun s => r (Estrings_EqualFold_0 s) (Hstrings_EqualFold_0 s)) s := by
  cases s <;> kernel_rfl
theorem Ostrings_EqualFold_0.bind_k {β γ : Type} (o : Ostrings_EqualFold_0) (c0 : ByteArray → ByteArray → Int → Option β) (c1 : ByteArray → ByteArray → Bool → Int → Option β) (c2 : ByteArray → ByteArray → Int → Option β) (φ : β → Option γ) : (Ostrings_EqualFold_0.k o c0 c1 c2).bind φ = Ostrings_EqualFold_0.k o (fun s0 t1 i5 => (c0 s0 t1 i5).bind φ) (fun s0 t1 t4 i5 => (c1 s0 t1 t4 i5).bind φ) (fun s0 t1 i5 => (c2 s0 t1 i5).bind φ) := by cases o <;> rfl
theorem natstrings_EqualFold_0 (K : PureK) {β γ : Type} (φ : β → Option γ) (d : Ostrings_EqualFold_0 → Option β) (r : Sstrings_EqualFold_0 → Option β) (s : Sstrings_EqualFold_0) : Rstrings_EqualFold_0 K (fun o => (d o).bind φ) (fun s => (r s).bind φ) s = (Rstrings_EqualFold_0 K d r s).bind φ := by
  cases s <;> simp only [Rstrings_EqualFold_0, bind_optK, bind_br, bind_asInt, bind_asBool, bind_asStr, bind_asLst, bind_asAgg, bind_asTup, bind_asBig, bind_asErr, bind_none]
theorem outstrings_EqualFold_0 (o : Ostrings_EqualFold_0) : ∃ x e' h', ∀ {β : Type} (k : Ex → Env → Heap → Option β), Tstrings_EqualFold_0 k o = k x e' h' := by cases o <;> exact ⟨_, _, _, fun _ => rfl⟩
theorem okstrings_EqualFold_0 {K : PureK} (hX : Sound X) (hK : KOk X K) {lstrings_EqualFold_0 : Sstrings_EqualFold_0 → Option Ostrings_EqualFold_0} (hl : ∀ s o, lstrings_EqualFold_0 s = some o → ∃ m, fuelRec (Rstrings_EqualFold_0 K some) m s = some o) (β : Type) (e : Env) (h : Heap) (k : Ex → Env → Heap → Option β) (r : β) (hr : (Fstrings_EqualFold_0 lstrings_EqualFold_0).run e h k = some r) : ∃ x e' h', k x e' h' = some r ∧ CodeAt X (.loop (loopBody (X).P 28 0)) e h x e' h' := by
  obtain ⟨fn, c, hin⟩ := loopIn_of (X := X) (f := 28) (i := 0) (key := 3) (by kernel_rfl)
  simp only [Fstrings_EqualFold_0] at hr
  split at hr
  · rename_i hlen
    have hlen := Nat.eq_of_beq_eq_true hlen
    split at hr
    · rename_i q0 q1 q5 q6
      obtain ⟨o, ho, hr⟩ := optK_some hr
      refine tell_ok hX (KOk.congr (X := X) (Y := X) rfl rfl hK) hin (E := Estrings_EqualFold_0) (H := Hstrings_EqualFold_0) (R := fun d r => Rstrings_EqualFold_0 K d r) (T := Tstrings_EqualFold_0) (ts := [(0, 1, 0), (1, 1, 0), (2, 1, 0)]) (len := 0) (cl := clstrings_EqualFold_0) (clo := clostrings_EqualFold_0) (roundstrings_EqualFold_0 K) (natstrings_EqualFold_0 K) outstrings_EqualFold_0 (hl _ _ ho) (cl0 := clstrings_EqualFold_0) (ts0 := []) ?_ rfl (by kernel_rfl) (by kernel_rfl) hr
      rw [clear_lit e 123 hlen, show clearEnv clstrings_EqualFold_0 ((List.range 123).map fun i => e.getD i .dead) = [e.getD 0 .dead, e.getD 1 .dead, .dead, .dead, .dead, e.getD 5 .dead, e.getD 6 .dead, .dead, .dead, .dead, .dead, .dead, .dead, .dead, .dead, .dead, .dead, .dead, .dead, .dead, .dead, .dead, .dead, .dead, .dead, .dead, .dead, .dead, .dead, .dead, .dead, .dead, .dead, .dead, .dead, .dead, .dead, .dead, .dead, .dead, .dead, .dead, .dead, .dead, .dead, .dead, .dead, .dead, .dead, .dead, .dead, .dead, .dead, .dead, .dead, .dead, .dead, .dead, .dead, .dead, .dead, .dead, .dead, .dead, .dead, .dead, .dead, .dead, .dead, .dead, .dead, .dead, .dead, .dead, .dead, .dead, .dead, .dead, .dead, .dead, .dead, .dead, .dead, .dead, .dead, .dead, .dead, .dead, .dead, .dead, .dead, .dead, .dead, .dead, .dead, .dead, .dead, .dead, .dead, .dead, .dead, .dead, .dead, .dead, .dead, .dead, .dead, .dead, .dead, .dead, .dead, .dead, .dead, .dead, .dead, .dead, .dead, .dead, .dead, .dead, .dead, .dead, .dead] from by kernel_rfl]; rw [q0, q1, q5, q6]
      kernel_rfl
    · cases hr
  · cases hr
inductive Sstrings_EqualFold_2 where
  | s0 (t1 : ByteArray) (sr10 : Int) (tr11 : Int) (r13 : Int) (obj0s : ByteArray) (obj0q : Nat)

inductive Ostrings_EqualFold_2 where
  | x0 (t1 : ByteArray) (tr11 : Int) (r13 : Int) (obj0s : ByteArray) (obj0q : Nat)

def Ostrings_EqualFold_2.k {β : Type} (o : Ostrings_EqualFold_2) (c0 : ByteArray → Int → Int → ByteArray → Nat → Option β) : Option β := match o with
  | .x0 t1 tr11 r13 obj0s obj0q => c0 t1 tr11 r13 obj0s obj0q

def Estrings_EqualFold_2 : Sstrings_EqualFold_2 → Env
  | .s0 t1 sr10 tr11 r13 obj0s obj0q => [.dead, (.v (.string t1)), .dead, .dead, .dead, .dead, .dead, .dead, .dead, .dead, (.v (.int .i32 sr10)), (.v (.int .i32 tr11)), .dead, (.v (.int .i32 r13)), .dead, .dead, .dead, .dead, .dead, .dead, .dead, .dead, .dead, .dead, .dead, .dead, .dead, .dead, .dead, .dead, .dead, .dead, .dead, .dead, .dead, .dead, .dead, .dead, .dead, .dead, .dead, .dead, .dead, .dead, .dead, .dead, .dead, .dead, .dead, .dead, .dead, .dead, .dead, .dead, .dead, .dead, .dead, .dead, .dead, .dead, .dead, .dead, .dead, .dead, .dead, .dead, .dead, (.ptr 0 0 0 0), .dead, .dead, .dead, .dead, .dead, .dead, .dead, .dead, .dead, .dead, .dead, .dead, .dead, .dead, .dead, .dead, .dead, .dead, .dead, .dead, .dead, .dead, .dead, .dead, .dead, .dead, .dead, .dead, .dead, .dead, .dead, .dead, .dead, .dead, .dead, .dead, .dead, .dead, .dead, .dead, .dead, .dead, .dead, .dead, .dead, .dead, .dead, .dead, .dead, .dead, .dead, .dead, .dead, .dead, .dead]

def Hstrings_EqualFold_2 : Sstrings_EqualFold_2 → Heap
  | .s0 t1 sr10 tr11 r13 obj0s obj0q => [⟨[.junk], 0, 0, true, true, 9, 1, (some (obj0s, obj0q))⟩]

def Tstrings_EqualFold_2 {β : Type} (k : Ex → Env → Heap → Option β) (o : Ostrings_EqualFold_2) : Option β := Ostrings_EqualFold_2.k o (fun t1 tr11 r13 obj0s obj0q => k (.exit 4) [.dead, (.v (.string t1)), .dead, .dead, .dead, .dead, .dead, .dead, .dead, .dead, .dead, (.v (.int .i32 tr11)), .dead, (.v (.int .i32 r13)), .dead, .dead, .dead, .dead, .dead, .dead, .dead, .dead, .dead, .dead, .dead, .dead, .dead, .dead, .dead, .dead, .dead, .dead, .dead, .dead, .dead, .dead, .dead, .dead, .dead, .dead, .dead, .dead, .dead, .dead, .dead, .dead, .dead, .dead, .dead, .dead, .dead, .dead, .dead, .dead, .dead, .dead, .dead, .dead, .dead, .dead, .dead, .dead, .dead, .dead, .dead, .dead, .dead, (.ptr 0 0 0 0), .dead, .dead, .dead, .dead, .dead, .dead, .dead, .dead, .dead, .dead, .dead, .dead, .dead, .dead, .dead, .dead, .dead, .dead, .dead, .dead, .dead, .dead, .dead, .dead, .dead, .dead, .dead, .dead, .dead, .dead, .dead, .dead, .dead, .dead, .dead, .dead, .dead, .dead, .dead, .dead, .dead, .dead, .dead, .dead, .dead, .dead, .dead, .dead, .dead, .dead, .dead, .dead, .dead, .dead, .dead] [⟨[.junk], 0, 0, true, true, 9, 1, (some (obj0s, obj0q))⟩])

def Fstrings_EqualFold_2 (lstrings_EqualFold_2 : Sstrings_EqualFold_2 → Option Ostrings_EqualFold_2) : LoopF := ⟨fun e h k => match Nat.beq e.length 123 with
  | true => (match e.getD 1 .dead, e.getD 10 .dead, e.getD 11 .dead, e.getD 13 .dead, e.getD 67 .dead, h with
    | (.v (.string t1)), (.v (.int .i32 sr10)), (.v (.int .i32 tr11)), (.v (.int .i32 r13)), (.ptr 0 0 0 0), [⟨[.junk], 0, 0, true, true, 9, 1, (some (obj0s, obj0q))⟩] => optK (lstrings_EqualFold_2 (.s0 t1 sr10 tr11 r13 obj0s obj0q)) (Tstrings_EqualFold_2 k)
    | _, _, _, _, _, _ => none)
  | false => none⟩

def clstrings_EqualFold_2 : List Tmp := [0, 2, 3, 4, 5, 6, 7, 8, 9, 12, 14, 15, 16, 17, 18, 19, 20, 21, 22, 23, 24, 25, 26, 27, 28, 29, 30, 31, 32, 33, 34, 35, 36, 37, 38, 39, 40, 41, 42, 43, 44, 45, 46, 47, 48, 49, 50, 51, 52, 53, 54, 55, 56, 57, 58, 59, 60, 61, 62, 63, 64, 65, 66, 68, 69, 70, 71, 72, 73, 74, 75, 76, 77, 78, 79, 80, 81, 82, 83, 84, 85, 86, 87, 88, 89, 90, 91, 92, 93, 94, 95, 96, 97, 98, 99, 100, 101, 102, 103, 104, 105, 106, 107, 108, 109, 110, 111, 112, 113, 114, 115, 116, 117, 118, 119, 120, 121, 122]
def clostrings_EqualFold_2 : List Tmp := [0, 2, 3, 4, 5, 6, 7, 8, 9, 10, 12, 14, 15, 16, 17, 18, 19, 20, 21, 22, 23, 24, 25, 26, 27, 28, 29, 30, 31, 32, 33, 34, 35, 36, 37, 38, 39, 40, 41, 42, 43, 44, 45, 46, 47, 48, 49, 50, 51, 52, 53, 54, 55, 56, 57, 58, 59, 60, 61, 62, 63, 64, 65, 66, 68, 69, 70, 71, 72, 73, 74, 75, 76, 77, 78, 79, 80, 81, 82, 83, 84, 85, 86, 87, 88, 89, 90, 91, 92, 93, 94, 95, 96, 97, 98, 99, 100, 101, 102, 103, 104, 105, 106, 107, 108, 109, 110, 111, 112, 113, 114, 115, 116, 117, 118, 119, 120, 121, 122]

noncomputable def Rstrings_EqualFold_2 {β : Type} (K : PureK) (d : Ostrings_EqualFold_2 → Option β) (r : Sstrings_EqualFold_2 → Option β) : Sstrings_EqualFold_2 → Option β
  | .s0 t1 sr10 tr11 r13 obj0s obj0q =>
    optK (br (r13 != sr10)
        (some (bv (decide (r13 < tr11))))
        (some (bv false))) fun wv1 =>
    Ab.asBool wv1 fun wb2 =>
    br wb2
      (optK (K f_unicode_SimpleFold [rv r13]) fun wv3 =>
      Ab.asInt wv3 .i32 fun wn4 =>
      r (.s0 t1 sr10 tr11 wn4 obj0s obj0q))
      (d (.x0 t1 tr11 r13 obj0s obj0q))
theorem roundstrings_EqualFold_2 (K : PureK) (lstrings_EqualFold_0 : Sstrings_EqualFold_0 → Option Ostrings_EqualFold_0) {β : Type} (r : Env → Heap → Option β) (k : Ex → Env → Heap → Option β) (s : Sstrings_EqualFold_2) : tellOne (addLp X 28 3 (Fstrings_EqualFold_0 lstrings_EqualFold_0)) K 0 28 2 [(1, 1, 0), (2, 1, 0), (3, 1, 0)] 1 clstrings_EqualFold_2 clostrings_EqualFold_2 r k (Estrings_EqualFold_2 s) (Hstrings_EqualFold_2 s) = Rstrings_EqualFold_2 K (Tstrings_EqualFold_2 k) (fun s => r (Estrings_EqualFold_2 s) (Hstrings_EqualFold_2 s)) s := by
  cases s <;> kernel_rfl
theorem Ostrings_EqualFold_2.bind_k {β γ : Type} (o : Ostrings_EqualFold_2) (c0 : ByteArray → Int → Int → ByteArray → Nat → Option β) (φ : β → Option γ) : (Ostrings_EqualFold_2.k o c0).bind φ = Ostrings_EqualFold_2.k o (fun t1 tr11 r13 obj0s obj0q => (c0 t1 tr11 r13 obj0s obj0q).bind φ) := by cases o <;> rfl
theorem natstrings_EqualFold_2 (K : PureK) {β γ : Type} (φ : β → Option γ) (d : Ostrings_EqualFold_2 → Option β) (r : Sstrings_EqualFold_2 → Option β) (s : Sstrings_EqualFold_2) : Rstrings_EqualFold_2 K (fun o => (d o).bind φ) (fun s => (r s).bind φ) s = (Rstrings_EqualFold_2 K d r s).bind φ := by
  cases s <;> simp only [Rstrings_EqualFold_2, bind_optK, bind_br, bind_asInt, bind_asBool, bind_asStr, bind_asLst, bind_asAgg, bind_asTup, bind_asBig, bind_asErr, bind_none]
theorem outstrings_EqualFold_2 (o : Ostrings_EqualFold_2) : ∃ x e' h', ∀ {β : Type} (k : Ex → Env → Heap → Option β), Tstrings_EqualFold_2 k o = k x e' h' := by cases o <;> exact ⟨_, _, _, fun _ => rfl⟩
theorem okstrings_EqualFold_2 {K : PureK} (lstrings_EqualFold_0 : Sstrings_EqualFold_0 → Option Ostrings_EqualFold_0) (hX : Sound (addLp X 28 3 (Fstrings_EqualFold_0 lstrings_EqualFold_0))) (hK : KOk X K) {lstrings_EqualFold_2 : Sstrings_EqualFold_2 → Option Ostrings_EqualFold_2} (hl : ∀ s o, lstrings_EqualFold_2 s = some o → ∃ m, fuelRec (Rstrings_EqualFold_2 K some) m s = some o) (β : Type) (e : Env) (h : Heap) (k : Ex → Env → Heap → Option β) (r : β) (hr : (Fstrings_EqualFold_2 lstrings_EqualFold_2).run e h k = some r) : ∃ x e' h', k x e' h' = some r ∧ CodeAt (addLp X 28 3 (Fstrings_EqualFold_0 lstrings_EqualFold_0)) (.loop (loopBody ((addLp X 28 3 (Fstrings_EqualFold_0 lstrings_EqualFold_0))).P 28 2)) e h x e' h' := by
  obtain ⟨fn, c, hin⟩ := loopIn_of (X := (addLp X 28 3 (Fstrings_EqualFold_0 lstrings_EqualFold_0))) (f := 28) (i := 2) (key := 30) (by kernel_rfl)
  simp only [Fstrings_EqualFold_2] at hr
  split at hr
  · rename_i hlen
    have hlen := Nat.eq_of_beq_eq_true hlen
    split at hr
    · rename_i q1 q10 q11 q13 q67
      obtain ⟨o, ho, hr⟩ := optK_some hr
      refine tell_ok hX (KOk.congr (X := X) (Y := (addLp X 28 3 (Fstrings_EqualFold_0 lstrings_EqualFold_0))) rfl rfl hK) hin (E := Estrings_EqualFold_2) (H := Hstrings_EqualFold_2) (R := fun d r => Rstrings_EqualFold_2 K d r) (T := Tstrings_EqualFold_2) (ts := [(1, 1, 0), (2, 1, 0), (3, 1, 0)]) (len := 1) (cl := clstrings_EqualFold_2) (clo := clostrings_EqualFold_2) (roundstrings_EqualFold_2 K lstrings_EqualFold_0) (natstrings_EqualFold_2 K) outstrings_EqualFold_2 (hl _ _ ho) (cl0 := clstrings_EqualFold_2) (ts0 := []) ?_ rfl (by kernel_rfl) (by kernel_rfl) hr
      rw [clear_lit e 123 hlen, show clearEnv clstrings_EqualFold_2 ((List.range 123).map fun i => e.getD i .dead) = [.dead, e.getD 1 .dead, .dead, .dead, .dead, .dead, .dead, .dead, .dead, .dead, e.getD 10 .dead, e.getD 11 .dead, .dead, e.getD 13 .dead, .dead, .dead, .dead, .dead, .dead, .dead, .dead, .dead, .dead, .dead, .dead, .dead, .dead, .dead, .dead, .dead, .dead, .dead, .dead, .dead, .dead, .dead, .dead, .dead, .dead, .dead, .dead, .dead, .dead, .dead, .dead, .dead, .dead, .dead, .dead, .dead, .dead, .dead, .dead, .dead, .dead, .dead, .dead, .dead, .dead, .dead, .dead, .dead, .dead, .dead, .dead, .dead, .dead, e.getD 67 .dead, .dead, .dead, .dead, .dead, .dead, .dead, .dead, .dead, .dead, .dead, .dead, .dead, .dead, .dead, .dead, .dead, .dead, .dead, .dead, .dead, .dead, .dead, .dead, .dead, .dead, .dead, .dead, .dead, .dead, .dead, .dead, .dead, .dead, .dead, .dead, .dead, .dead, .dead, .dead, .dead, .dead, .dead, .dead, .dead, .dead, .dead, .dead, .dead, .dead, .dead, .dead, .dead, .dead, .dead, .dead] from by kernel_rfl]; rw [q1, q10, q11, q13, q67]
      kernel_rfl
    · cases hr
  · cases hr
inductive Sstrings_EqualFold_1 where
  | s0 (t1 : ByteArray) (obj0s : ByteArray) (obj0q : Nat)

inductive Ostrings_EqualFold_1 where
  | x0 (t1 : ByteArray) (t4 : Bool) (obj0s : ByteArray) (obj0q : Nat)
  | x1 (t1 : ByteArray) (obj0s : ByteArray) (obj0q : Nat)

def Ostrings_EqualFold_1.k {β : Type} (o : Ostrings_EqualFold_1) (c0 : ByteArray → Bool → ByteArray → Nat → Option β) (c1 : ByteArray → ByteArray → Nat → Option β) : Option β := match o with
  | .x0 t1 t4 obj0s obj0q => c0 t1 t4 obj0s obj0q
  | .x1 t1 obj0s obj0q => c1 t1 obj0s obj0q

def Estrings_EqualFold_1 : Sstrings_EqualFold_1 → Env
  | .s0 t1 obj0s obj0q => [.dead, (.v (.string t1)), .dead, .dead, .dead, .dead, .dead, .dead, .dead, .dead, .dead, .dead, .dead, .dead, .dead, .dead, .dead, .dead, .dead, .dead, .dead, .dead, .dead, .dead, .dead, .dead, .dead, .dead, .dead, .dead, .dead, .dead, .dead, .dead, .dead, .dead, .dead, .dead, .dead, .dead, .dead, .dead, .dead, .dead, .dead, .dead, .dead, .dead, .dead, .dead, .dead, .dead, .dead, .dead, .dead, .dead, .dead, .dead, .dead, .dead, .dead, .dead, .dead, .dead, .dead, .dead, .dead, (.ptr 0 0 0 0), .dead, .dead, .dead, .dead, .dead, .dead, .dead, .dead, .dead, .dead, .dead, .dead, .dead, .dead, .dead, .dead, .dead, .dead, .dead, .dead, .dead, .dead, .dead, .dead, .dead, .dead, .dead, .dead, .dead, .dead, .dead, .dead, .dead, .dead, .dead, .dead, .dead, .dead, .dead, .dead, .dead, .dead, .dead, .dead, .dead, .dead, .dead, .dead, .dead, .dead, .dead, .dead, .dead, .dead, .dead]

def Hstrings_EqualFold_1 : Sstrings_EqualFold_1 → Heap
  | .s0 t1 obj0s obj0q => [⟨[.junk], 0, 0, true, true, 9, 1, (some (obj0s, obj0q))⟩]

def Tstrings_EqualFold_1 {β : Type} (k : Ex → Env → Heap → Option β) (o : Ostrings_EqualFold_1) : Option β := Ostrings_EqualFold_1.k o (fun t1 t4 obj0s obj0q => k .ret [.dead, (.v (.string t1)), .dead, .dead, (.v (.bool t4)), .dead, .dead, .dead, .dead, .dead, .dead, .dead, .dead, .dead, .dead, .dead, .dead, .dead, .dead, .dead, .dead, .dead, .dead, .dead, .dead, .dead, .dead, .dead, .dead, .dead, .dead, .dead, .dead, .dead, .dead, .dead, .dead, .dead, .dead, .dead, .dead, .dead, .dead, .dead, .dead, .dead, .dead, .dead, .dead, .dead, .dead, .dead, .dead, .dead, .dead, .dead, .dead, .dead, .dead, .dead, .dead, .dead, .dead, .dead, .dead, .dead, .dead, .dead, .dead, .dead, .dead, .dead, .dead, .dead, .dead, .dead, .dead, .dead, .dead, .dead, .dead, .dead, .dead, .dead, .dead, .dead, .dead, .dead, .dead, .dead, .dead, .dead, .dead, .dead, .dead, .dead, .dead, .dead, .dead, .dead, .dead, .dead, .dead, .dead, .dead, .dead, .dead, .dead, .dead, .dead, .dead, .dead, .dead, .dead, .dead, .dead, .dead, .dead, .dead, .dead, .dead, .dead, .dead] [⟨[.junk], 0, 0, true, true, 9, 1, (some (obj0s, obj0q))⟩]) (fun t1 obj0s obj0q => k (.exit 2) [.dead, (.v (.string t1)), .dead, .dead, .dead, .dead, .dead, .dead, .dead, .dead, .dead, .dead, .dead, .dead, .dead, .dead, .dead, .dead, .dead, .dead, .dead, .dead, .dead, .dead, .dead, .dead, .dead, .dead, .dead, .dead, .dead, .dead, .dead, .dead, .dead, .dead, .dead, .dead, .dead, .dead, .dead, .dead, .dead, .dead, .dead, .dead, .dead, .dead, .dead, .dead, .dead, .dead, .dead, .dead, .dead, .dead, .dead, .dead, .dead, .dead, .dead, .dead, .dead, .dead, .dead, .dead, .dead, .dead, .dead, .dead, .dead, .dead, .dead, .dead, .dead, .dead, .dead, .dead, .dead, .dead, .dead, .dead, .dead, .dead, .dead, .dead, .dead, .dead, .dead, .dead, .dead, .dead, .dead, .dead, .dead, .dead, .dead, .dead, .dead, .dead, .dead, .dead, .dead, .dead, .dead, .dead, .dead, .dead, .dead, .dead, .dead, .dead, .dead, .dead, .dead, .dead, .dead, .dead, .dead, .dead, .dead, .dead, .dead] [⟨[.junk], 0, 0, true, true, 9, 1, (some (obj0s, obj0q))⟩])

def Fstrings_EqualFold_1 (lstrings_EqualFold_1 : Sstrings_EqualFold_1 → Option Ostrings_EqualFold_1) : LoopF := ⟨fun e h k => match Nat.beq e.length 123 with
  | true => (match e.getD 1 .dead, e.getD 67 .dead, h with
    | (.v (.string t1)), (.ptr 0 0 0 0), [⟨[.junk], 0, 0, true, true, 9, 1, (some (obj0s, obj0q))⟩] => optK (lstrings_EqualFold_1 (.s0 t1 obj0s obj0q)) (Tstrings_EqualFold_1 k)
    | _, _, _ => none)
  | false => none⟩

def clstrings_EqualFold_1 : List Tmp := [0, 2, 3, 4, 5, 6, 7, 8, 9, 10, 11, 12, 13, 14, 15, 16, 17, 18, 19, 20, 21, 22, 23, 24, 25, 26, 27, 28, 29, 30, 31, 32, 33, 34, 35, 36, 37, 38, 39, 40, 41, 42, 43, 44, 45, 46, 47, 48, 49, 50, 51, 52, 53, 54, 55, 56, 57, 58, 59, 60, 61, 62, 63, 64, 65, 66, 68, 69, 70, 71, 72, 73, 74, 75, 76, 77, 78, 79, 80, 81, 82, 83, 84, 85, 86, 87, 88, 89, 90, 91, 92, 93, 94, 95, 96, 97, 98, 99, 100, 101, 102, 103, 104, 105, 106, 107, 108, 109, 110, 111, 112, 113, 114, 115, 116, 117, 118, 119, 120, 121, 122]
def clostrings_EqualFold_1 : List Tmp := [0, 2, 3, 5, 6, 7, 8, 9, 10, 11, 12, 13, 14, 15, 16, 17, 18, 19, 20, 21, 22, 23, 24, 25, 26, 27, 28, 29, 30, 31, 32, 33, 34, 35, 36, 37, 38, 39, 40, 41, 42, 43, 44, 45, 46, 47, 48, 49, 50, 51, 52, 53, 54, 55, 56, 57, 58, 59, 60, 61, 62, 63, 64, 65, 66, 67, 68, 69, 70, 71, 72, 73, 74, 75, 76, 77, 78, 79, 80, 81, 82, 83, 84, 85, 86, 87, 88, 89, 90, 91, 92, 93, 94, 95, 96, 97, 98, 99, 100, 101, 102, 103, 104, 105, 106, 107, 108, 109, 110, 111, 112, 113, 114, 115, 116, 117, 118, 119, 120, 121, 122]

noncomputable def Rstrings_EqualFold_1 {β : Type} (K : PureK) (lstrings_EqualFold_2 : Sstrings_EqualFold_2 → Option Ostrings_EqualFold_2) (d : Ostrings_EqualFold_1 → Option β) (r : Sstrings_EqualFold_1 → Option β) : Sstrings_EqualFold_1 → Option β
  | .s0 t1 obj0s obj0q =>
    br (obj0q.blt obj0s.size)
      (br (((t1.size : Nat) : Int) == 0)
        (d (.x0 t1 false obj0s (obj0q + (Utf8.decode obj0s obj0q).snd)))
        (optK (K f_utf8_DecodeRuneInString [sv t1]) fun wv9 =>
        Ab.asTup wv9 2 fun wg10 =>
        Ab.asInt (wg10 0) .i32 fun wn11 =>
        Ab.asInt (wg10 1) .i64 fun wn12 =>
        br (decide (0 ≤ wn12))
          (br (decide (wn12 ≤ ((t1.size : Nat) : Int)))
            (br (wn11 == (((Utf8.decode obj0s obj0q).fst : Nat) : Int))
              (r (.s0 (cutStr t1 (some wn12) none) obj0s (obj0q + (Utf8.decode obj0s obj0q).snd)))
              (br (decide (wn11 < (((Utf8.decode obj0s obj0q).fst : Nat) : Int)))
                (br (decide ((((Utf8.decode obj0s obj0q).fst : Nat) : Int) < 128))
                  (optK (br (decide (65 ≤ wn11))
                      (br (decide (wn11 ≤ 90))
                        (some (bv ((((Utf8.decode obj0s obj0q).fst : Nat) : Int) == IntKind.i32.wrap (IntKind.i32.wrap (wn11 + 97) - 65))))
                        (some (bv false)))
                      (some (bv false))) fun wv13 =>
                  Ab.asBool wv13 fun wb14 =>
                  br wb14
                    (r (.s0 (cutStr t1 (some wn12) none) obj0s (obj0q + (Utf8.decode obj0s obj0q).snd)))
                    (d (.x0 (cutStr t1 (some wn12) none) false obj0s (obj0q + (Utf8.decode obj0s obj0q).snd))))
                  (optK (K f_unicode_SimpleFold [rv wn11]) fun wv15 =>
                  Ab.asInt wv15 .i32 fun wn16 =>
                  optK (lstrings_EqualFold_2 (Sstrings_EqualFold_2.s0 (cutStr t1 (some wn12) none) wn11 ((((Utf8.decode obj0s obj0q).fst : Nat) : Int)) wn16 obj0s (obj0q + (Utf8.decode obj0s obj0q).snd))) fun wo17 => Ostrings_EqualFold_2.k wo17 (fun (t1_18 : ByteArray) (tr11_18 : Int) (r13_18 : Int) (obj0s_18 : ByteArray) (obj0q_18 : Nat) =>
                  br (r13_18 == tr11_18)
                    (r (.s0 t1_18 obj0s_18 obj0q_18))
                    (d (.x0 t1_18 false obj0s_18 obj0q_18)))))
                (br (decide (wn11 < 128))
                  (optK (br (decide (65 ≤ (((Utf8.decode obj0s obj0q).fst : Nat) : Int)))
                      (br (decide ((((Utf8.decode obj0s obj0q).fst : Nat) : Int) ≤ 90))
                        (some (bv (wn11 == IntKind.i32.wrap (IntKind.i32.wrap ((((Utf8.decode obj0s obj0q).fst : Nat) : Int) + 97) - 65))))
                        (some (bv false)))
                      (some (bv false))) fun wv19 =>
                  Ab.asBool wv19 fun wb20 =>
                  br wb20
                    (r (.s0 (cutStr t1 (some wn12) none) obj0s (obj0q + (Utf8.decode obj0s obj0q).snd)))
                    (d (.x0 (cutStr t1 (some wn12) none) false obj0s (obj0q + (Utf8.decode obj0s obj0q).snd))))
                  (optK (K f_unicode_SimpleFold [rv ((((Utf8.decode obj0s obj0q).fst : Nat) : Int))]) fun wv21 =>
                  Ab.asInt wv21 .i32 fun wn22 =>
                  optK (lstrings_EqualFold_2 (Sstrings_EqualFold_2.s0 (cutStr t1 (some wn12) none) ((((Utf8.decode obj0s obj0q).fst : Nat) : Int)) wn11 wn22 obj0s (obj0q + (Utf8.decode obj0s obj0q).snd))) fun wo23 => Ostrings_EqualFold_2.k wo23 (fun (t1_24 : ByteArray) (tr11_24 : Int) (r13_24 : Int) (obj0s_24 : ByteArray) (obj0q_24 : Nat) =>
                  br (r13_24 == tr11_24)
                    (r (.s0 t1_24 obj0s_24 obj0q_24))
                    (d (.x0 t1_24 false obj0s_24 obj0q_24)))))))
            (none))
          (none)))
      (d (.x1 t1 obj0s obj0q))
theorem roundstrings_EqualFold_1 (K : PureK) (lstrings_EqualFold_0 : Sstrings_EqualFold_0 → Option Ostrings_EqualFold_0) (lstrings_EqualFold_2 : Sstrings_EqualFold_2 → Option Ostrings_EqualFold_2) {β : Type} (r : Env → Heap → Option β) (k : Ex → Env → Heap → Option β) (s : Sstrings_EqualFold_1) : tellOne (addLp (addLp X 28 3 (Fstrings_EqualFold_0 lstrings_EqualFold_0)) 28 30 (Fstrings_EqualFold_2 lstrings_EqualFold_2)) K 0 28 1 [(1, 1, 0), (2, 1, 0), (3, 1, 0)] 1 clstrings_EqualFold_1 clostrings_EqualFold_1 r k (Estrings_EqualFold_1 s) (Hstrings_EqualFold_1 s) = Rstrings_EqualFold_1 K lstrings_EqualFold_2 (Tstrings_EqualFold_1 k) (fun s => r (Estrings_EqualFold_1 s) (Hstrings_EqualFold_1 s)) s := by
  cases s <;> kernel_rfl
theorem Ostrings_EqualFold_1.bind_k {β γ : Type} (o : Ostrings_EqualFold_1) (c0 : ByteArray → Bool → ByteArray → Nat → Option β) (c1 : ByteArray → ByteArray → Nat → Option β) (φ : β → Option γ) : (Ostrings_EqualFold_1.k o c0 c1).bind φ = Ostrings_EqualFold_1.k o (fun t1 t4 obj0s obj0q => (c0 t1 t4 obj0s obj0q).bind φ) (fun t1 obj0s obj0q => (c1 t1 obj0s obj0q).bind φ) := by cases o <;> rfl
theorem natstrings_EqualFold_1 (K : PureK) (lstrings_EqualFold_2 : Sstrings_EqualFold_2 → Option Ostrings_EqualFold_2) {β γ : Type} (φ : β → Option γ) (d : Ostrings_EqualFold_1 → Option β) (r : Sstrings_EqualFold_1 → Option β) (s : Sstrings_EqualFold_1) : Rstrings_EqualFold_1 K lstrings_EqualFold_2 (fun o => (d o).bind φ) (fun s => (r s).bind φ) s = (Rstrings_EqualFold_1 K lstrings_EqualFold_2 d r s).bind φ := by
  cases s <;> simp only [Rstrings_EqualFold_1, bind_optK, bind_br, bind_asInt, bind_asBool, bind_asStr, bind_asLst, bind_asAgg, bind_asTup, bind_asBig, bind_asErr, bind_none, Ostrings_EqualFold_2.bind_k]
theorem outstrings_EqualFold_1 (o : Ostrings_EqualFold_1) : ∃ x e' h', ∀ {β : Type} (k : Ex → Env → Heap → Option β), Tstrings_EqualFold_1 k o = k x e' h' := by cases o <;> exact ⟨_, _, _, fun _ => rfl⟩
theorem okstrings_EqualFold_1 {K : PureK} (lstrings_EqualFold_0 : Sstrings_EqualFold_0 → Option Ostrings_EqualFold_0) (lstrings_EqualFold_2 : Sstrings_EqualFold_2 → Option Ostrings_EqualFold_2) (hX : Sound (addLp (addLp X 28 3 (Fstrings_EqualFold_0 lstrings_EqualFold_0)) 28 30 (Fstrings_EqualFold_2 lstrings_EqualFold_2))) (hK : KOk X K) {lstrings_EqualFold_1 : Sstrings_EqualFold_1 → Option Ostrings_EqualFold_1} (hl : ∀ s o, lstrings_EqualFold_1 s = some o → ∃ m, fuelRec (Rstrings_EqualFold_1 K lstrings_EqualFold_2 some) m s = some o) (β : Type) (e : Env) (h : Heap) (k : Ex → Env → Heap → Option β) (r : β) (hr : (Fstrings_EqualFold_1 lstrings_EqualFold_1).run e h k = some r) : ∃ x e' h', k x e' h' = some r ∧ CodeAt (addLp (addLp X 28 3 (Fstrings_EqualFold_0 lstrings_EqualFold_0)) 28 30 (Fstrings_EqualFold_2 lstrings_EqualFold_2)) (.loop (loopBody ((addLp (addLp X 28 3 (Fstrings_EqualFold_0 lstrings_EqualFold_0)) 28 30 (Fstrings_EqualFold_2 lstrings_EqualFold_2))).P 28 1)) e h x e' h' := by
  obtain ⟨fn, c, hin⟩ := loopIn_of (X := (addLp (addLp X 28 3 (Fstrings_EqualFold_0 lstrings_EqualFold_0)) 28 30 (Fstrings_EqualFold_2 lstrings_EqualFold_2))) (f := 28) (i := 1) (key := 17) (by kernel_rfl)
  simp only [Fstrings_EqualFold_1] at hr
  split at hr
  · rename_i hlen
    have hlen := Nat.eq_of_beq_eq_true hlen
    split at hr
    · rename_i q1 q67
      obtain ⟨o, ho, hr⟩ := optK_some hr
      refine tell_ok hX (KOk.congr (X := X) (Y := (addLp (addLp X 28 3 (Fstrings_EqualFold_0 lstrings_EqualFold_0)) 28 30 (Fstrings_EqualFold_2 lstrings_EqualFold_2))) rfl rfl hK) hin (E := Estrings_EqualFold_1) (H := Hstrings_EqualFold_1) (R := fun d r => Rstrings_EqualFold_1 K lstrings_EqualFold_2 d r) (T := Tstrings_EqualFold_1) (ts := [(1, 1, 0), (2, 1, 0), (3, 1, 0)]) (len := 1) (cl := clstrings_EqualFold_1) (clo := clostrings_EqualFold_1) (roundstrings_EqualFold_1 K lstrings_EqualFold_0 lstrings_EqualFold_2) (natstrings_EqualFold_1 K lstrings_EqualFold_2) outstrings_EqualFold_1 (hl _ _ ho) (cl0 := clstrings_EqualFold_1) (ts0 := []) ?_ rfl (by kernel_rfl) (by kernel_rfl) hr
      rw [clear_lit e 123 hlen, show clearEnv clstrings_EqualFold_1 ((List.range 123).map fun i => e.getD i .dead) = [.dead, e.getD 1 .dead, .dead, .dead, .dead, .dead, .dead, .dead, .dead, .dead, .dead, .dead, .dead, .dead, .dead, .dead, .dead, .dead, .dead, .dead, .dead, .dead, .dead, .dead, .dead, .dead, .dead, .dead, .dead, .dead, .dead, .dead, .dead, .dead, .dead, .dead, .dead, .dead, .dead, .dead, .dead, .dead, .dead, .dead, .dead, .dead, .dead, .dead, .dead, .dead, .dead, .dead, .dead, .dead, .dead, .dead, .dead, .dead, .dead, .dead, .dead, .dead, .dead, .dead, .dead, .dead, .dead, e.getD 67 .dead, .dead, .dead, .dead, .dead, .dead, .dead, .dead, .dead, .dead, .dead, .dead, .dead, .dead, .dead, .dead, .dead, .dead, .dead, .dead, .dead, .dead, .dead, .dead, .dead, .dead, .dead, .dead, .dead, .dead, .dead, .dead, .dead, .dead, .dead, .dead, .dead, .dead, .dead, .dead, .dead, .dead, .dead, .dead, .dead, .dead, .dead, .dead, .dead, .dead, .dead, .dead, .dead, .dead, .dead, .dead] from by kernel_rfl]; rw [q1, q67]
      kernel_rfl
    · cases hr
  · cases hr
noncomputable def Rstrings_EqualFold (K : PureK) (lstrings_EqualFold_0 : Sstrings_EqualFold_0 → Option Ostrings_EqualFold_0) (lstrings_EqualFold_1 : Sstrings_EqualFold_1 → Option Ostrings_EqualFold_1) (s0 : ByteArray) (t1 : ByteArray) : Option AV :=
  optK (lstrings_EqualFold_0 (Sstrings_EqualFold_0.s0 s0 t1 0 (if ((t1.size : Nat) : Int) < ((s0.size : Nat) : Int) then ((t1.size : Nat) : Int) else ((s0.size : Nat) : Int)))) fun wo3 => Ostrings_EqualFold_0.k wo3
      (fun (s0_4 : ByteArray) (t1_4 : ByteArray) (i5_4 : Int) => br (decide (0 ≤ i5_4))
        (br (decide (i5_4 ≤ ((s0_4.size : Nat) : Int)))
          (br (decide (0 ≤ i5_4))
            (br (decide (i5_4 ≤ ((t1_4.size : Nat) : Int)))
              (optK (lstrings_EqualFold_1 (Sstrings_EqualFold_1.s0 (cutStr t1_4 (some i5_4) none) (cutStr s0_4 (some i5_4) none) 0)) fun wo5 => Ostrings_EqualFold_1.k wo5
                (fun (t1_6 : ByteArray) (t4_6 : Bool) (obj0s_6 : ByteArray) (obj0q_6 : Nat) => some (bv t4_6))
                (fun (t1_7 : ByteArray) (obj0s_7 : ByteArray) (obj0q_7 : Nat) => some (bv (((t1_7.size : Nat) : Int) == 0))))
              (none))
            (none))
          (none))
        (none))
      (fun (s0_8 : ByteArray) (t1_8 : ByteArray) (t4_8 : Bool) (i5_8 : Int) => some (bv t4_8))
      (fun (s0_9 : ByteArray) (t1_9 : ByteArray) (i5_9 : Int) => some (bv (((s0_9.size : Nat) : Int) == ((t1_9.size : Nat) : Int))))
theorem topstrings_EqualFold (K : PureK) (lstrings_EqualFold_0 : Sstrings_EqualFold_0 → Option Ostrings_EqualFold_0) (lstrings_EqualFold_2 : Sstrings_EqualFold_2 → Option Ostrings_EqualFold_2) (lstrings_EqualFold_1 : Sstrings_EqualFold_1 → Option Ostrings_EqualFold_1) (s0 : ByteArray) (t1 : ByteArray) : topK (addLp (addLp (addLp X 28 3 (Fstrings_EqualFold_0 lstrings_EqualFold_0)) 28 30 (Fstrings_EqualFold_2 lstrings_EqualFold_2)) 28 17 (Fstrings_EqualFold_1 lstrings_EqualFold_1)) K 0 f_strings_EqualFold [(.v (.string s0)), (.v (.string t1))] = Rstrings_EqualFold K lstrings_EqualFold_0 lstrings_EqualFold_1 s0 t1 := by kernel_rfl
theorem pcstrings_EqualFold {K : PureK} (hK : KOk X K) {lstrings_EqualFold_0 : Sstrings_EqualFold_0 → Option Ostrings_EqualFold_0} {lstrings_EqualFold_2 : Sstrings_EqualFold_2 → Option Ostrings_EqualFold_2} {lstrings_EqualFold_1 : Sstrings_EqualFold_1 → Option Ostrings_EqualFold_1} (hstrings_EqualFold_0 : ∀ s o, lstrings_EqualFold_0 s = some o → ∃ m, fuelRec (Rstrings_EqualFold_0 K some) m s = some o) (hstrings_EqualFold_2 : ∀ s o, lstrings_EqualFold_2 s = some o → ∃ m, fuelRec (Rstrings_EqualFold_2 K some) m s = some o) (hstrings_EqualFold_1 : ∀ s o, lstrings_EqualFold_1 s = some o → ∃ m, fuelRec (Rstrings_EqualFold_1 K lstrings_EqualFold_2 some) m s = some o) {s0 : ByteArray} {t1 : ByteArray} {v : AV} (h : Rstrings_EqualFold K lstrings_EqualFold_0 lstrings_EqualFold_1 s0 t1 = some v) : PureCall X f_strings_EqualFold [(.v (.string s0)), (.v (.string t1))] v := by
  have hSo0 := soundX
  obtain ⟨_, _, hin0⟩ := loopIn_of (X := X) (f := 28) (i := 0) (key := 3) (by kernel_rfl)
  have hSo1 := sound_add hSo0 hin0 (okstrings_EqualFold_0 hSo0 hK hstrings_EqualFold_0)
  obtain ⟨_, _, hin1⟩ := loopIn_of (X := (addLp X 28 3 (Fstrings_EqualFold_0 lstrings_EqualFold_0))) (f := 28) (i := 2) (key := 30) (by kernel_rfl)
  have hSo2 := sound_add hSo1 hin1 (okstrings_EqualFold_2 lstrings_EqualFold_0 hSo1 hK hstrings_EqualFold_2)
  obtain ⟨_, _, hin2⟩ := loopIn_of (X := (addLp (addLp X 28 3 (Fstrings_EqualFold_0 lstrings_EqualFold_0)) 28 30 (Fstrings_EqualFold_2 lstrings_EqualFold_2))) (f := 28) (i := 1) (key := 17) (by kernel_rfl)
  have hSo3 := sound_add hSo2 hin2 (okstrings_EqualFold_1 lstrings_EqualFold_0 lstrings_EqualFold_2 hSo2 hK hstrings_EqualFold_1)
  exact tell_top (X := X) (Y := (addLp (addLp (addLp X 28 3 (Fstrings_EqualFold_0 lstrings_EqualFold_0)) 28 30 (Fstrings_EqualFold_2 lstrings_EqualFold_2)) 28 17 (Fstrings_EqualFold_1 lstrings_EqualFold_1))) rfl rfl hSo3 hK ((topstrings_EqualFold K lstrings_EqualFold_0 lstrings_EqualFold_2 lstrings_EqualFold_1 s0 t1).trans h)

end Go.Proofs.YtmiffikcnkgcpaaDoor
