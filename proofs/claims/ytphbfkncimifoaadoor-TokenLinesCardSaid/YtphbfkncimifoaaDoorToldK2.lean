import Derived.Test.YtphbfkncimifoaaDoorCtx
set_option maxRecDepth 100000
set_option linter.unusedVariables false
set_option linter.unusedSimpArgs false
namespace Go.Proofs.YtphbfkncimifoaaDoor
open Go Go.Ab
/-! 13: escheat/token.Right -/
noncomputable def Rtoken_Right (K : PureK) (r0_0n : Bool) (r0_0 : List AV) (r0_1 : ByteArray) (r0_2 : Int) (r0_3 : Int) : Option AV :=
  optK (br (decide (((r0_0.length : Nat) : Int) > 8))
        (some (bv true))
        (optK (K f_slices_ContainsFunc_string_string [AV.lst 1 r0_0n r0_0, AV.fn (Fn.func 20) [] []]) fun wv2 =>
        Ab.asBool wv2 fun wb3 =>
        some (bv wb3))) fun wv1 =>
    Ab.asBool wv1 fun wb4 =>
    br wb4
      (some (bv false))
      (br (r0_2 == 0)
        (optK (br (r0_3 == 0)
            (br (decide (((r0_1.size : Nat) : Int) ≤ 400))
              (some (bv ((((r0_0.length : Nat) : Int)).tmod 2 == 0)))
              (some (bv false)))
            (some (bv false))) fun wv5 =>
        Ab.asBool wv5 fun wb6 =>
        some (bv wb6))
        (br (r0_2 == 1)
          (optK (br (decide (r0_3 ≥ 1))
              (br (decide (r0_3 ≤ 2000))
                (br (decide (((r0_1.size : Nat) : Int) ≤ w64 (2000 - r0_3)))
                  (some (bv ((((r0_0.length : Nat) : Int)).tmod 2 == 1)))
                  (some (bv false)))
                (some (bv false)))
              (some (bv false))) fun wv7 =>
          Ab.asBool wv7 fun wb8 =>
          some (bv wb8))
          (br (r0_2 == 2)
            (br (r0_2 == 2)
              (optK (br (r0_3 == 0)
                  (br (strEq r0_1 ({ data := #[] } : ByteArray))
                    (some (bv (((r0_0.length : Nat) : Int) == 0)))
                    (some (bv false)))
                  (some (bv false))) fun wv9 =>
              Ab.asBool wv9 fun wb10 =>
              some (bv wb10))
              (br (r0_2 == 3)
                (optK (br (decide (r0_3 ≥ 1))
                    (br (decide (r0_3 ≤ 10000000000))
                      (br (strEq r0_1 ({ data := #[] } : ByteArray))
                        (some (bv (((r0_0.length : Nat) : Int) == 0)))
                        (some (bv false)))
                      (some (bv false)))
                    (some (bv false))) fun wv11 =>
                Ab.asBool wv11 fun wb12 =>
                some (bv wb12))
                (some (bv false))))
            (br (r0_2 == 4)
              (optK (br (r0_3 == 0)
                  (br (strEq r0_1 ({ data := #[] } : ByteArray))
                    (some (bv (((r0_0.length : Nat) : Int) == 0)))
                    (some (bv false)))
                  (some (bv false))) fun wv13 =>
              Ab.asBool wv13 fun wb14 =>
              some (bv wb14))
              (br (r0_2 == 3)
                (optK (br (decide (r0_3 ≥ 1))
                    (br (decide (r0_3 ≤ 10000000000))
                      (br (strEq r0_1 ({ data := #[] } : ByteArray))
                        (some (bv (((r0_0.length : Nat) : Int) == 0)))
                        (some (bv false)))
                      (some (bv false)))
                    (some (bv false))) fun wv15 =>
                Ab.asBool wv15 fun wb16 =>
                some (bv wb16))
                (some (bv false)))))))
theorem toptoken_Right (K : PureK) (r0_0n : Bool) (r0_0 : List AV) (r0_1 : ByteArray) (r0_2 : Int) (r0_3 : Int) : topK X K 0 f_token_Right [(.agg [(.lst 1 r0_0n r0_0), (.v (.string r0_1)), (.v (.int .i64 r0_2)), (.v (.int .i64 r0_3))])] = Rtoken_Right K r0_0n r0_0 r0_1 r0_2 r0_3 := by kernel_rfl
theorem pctoken_Right {K : PureK} (hK : KOk X K) {r0_0n : Bool} {r0_0 : List AV} {r0_1 : ByteArray} {r0_2 : Int} {r0_3 : Int} {v : AV} (h : Rtoken_Right K r0_0n r0_0 r0_1 r0_2 r0_3 = some v) : PureCall X f_token_Right [(.agg [(.lst 1 r0_0n r0_0), (.v (.string r0_1)), (.v (.int .i64 r0_2)), (.v (.int .i64 r0_3))])] v := by
  have hSo0 := soundX
  exact tell_top (X := X) (Y := X) rfl rfl hSo0 hK ((toptoken_Right K r0_0n r0_0 r0_1 r0_2 r0_3).trans h)

/-! 15: escheat/escheatref23.Right -/
inductive Sref23_Right_0 where
  | s0 (n3 : Int) (i4 : Int) (obj0_0_0n : Bool) (obj0_0_0 : List AV) (obj0_0_1 : ByteArray) (obj0_0_2 : Int) (obj0_0_3 : Int)

inductive Oref23_Right_0 where
  | x0 (t2 : Bool) (n3 : Int) (obj0_0_0n : Bool) (obj0_0_0 : List AV) (obj0_0_1 : ByteArray) (obj0_0_2 : Int) (obj0_0_3 : Int)
  | x1 (n3 : Int) (obj0_0_0n : Bool) (obj0_0_0 : List AV) (obj0_0_1 : ByteArray) (obj0_0_2 : Int) (obj0_0_3 : Int)

def Oref23_Right_0.k {β : Type} (o : Oref23_Right_0) (c0 : Bool → Int → Bool → (List AV) → ByteArray → Int → Int → Option β) (c1 : Int → Bool → (List AV) → ByteArray → Int → Int → Option β) : Option β := match o with
  | .x0 t2 n3 obj0_0_0n obj0_0_0 obj0_0_1 obj0_0_2 obj0_0_3 => c0 t2 n3 obj0_0_0n obj0_0_0 obj0_0_1 obj0_0_2 obj0_0_3
  | .x1 n3 obj0_0_0n obj0_0_0 obj0_0_1 obj0_0_2 obj0_0_3 => c1 n3 obj0_0_0n obj0_0_0 obj0_0_1 obj0_0_2 obj0_0_3

def Eref23_Right_0 : Sref23_Right_0 → Env
  | .s0 n3 i4 obj0_0_0n obj0_0_0 obj0_0_1 obj0_0_2 obj0_0_3 => [.dead, (.ptr 0 0 0 0), .dead, (.v (.int .i64 n3)), (.v (.int .i64 i4)), .dead, .dead, .dead, .dead, .dead, .dead, .dead, .dead, .dead, .dead, .dead, .dead, .dead, .dead, .dead, .dead, .dead, .dead, .dead, .dead, .dead, .dead, .dead, .dead, .dead, .dead, .dead, .dead, .dead, .dead, .dead, .dead, .dead, .dead, .dead, .dead, .dead, .dead, .dead, .dead, .dead, .dead, .dead, .dead, .dead, .dead, .dead, .dead, .dead, .dead, .dead, .dead, .dead, .dead, .dead, .dead, .dead, .dead, .dead, .dead, .dead, .dead, .dead, .dead, .dead, .dead, .dead, .dead, .dead, .dead, .dead, .dead, .dead, .dead, .dead, .dead, .dead, .dead, .dead, .dead, .dead, .dead, .dead, .dead, .dead, .dead, .dead, .dead, .dead, .dead, .dead, .dead, .dead, .dead, .dead, .dead, .dead, .dead, .dead, .dead, .dead, .dead, .dead]

def Href23_Right_0 : Sref23_Right_0 → Heap
  | .s0 n3 i4 obj0_0_0n obj0_0_0 obj0_0_1 obj0_0_2 obj0_0_3 => [⟨[(.agg [(.lst 1 obj0_0_0n obj0_0_0), (.v (.string obj0_0_1)), (.v (.int .i64 obj0_0_2)), (.v (.int .i64 obj0_0_3))])], 0, 0, true, true, 27, 4, none⟩]

def Tref23_Right_0 {β : Type} (k : Ex → Env → Heap → Option β) (o : Oref23_Right_0) : Option β := Oref23_Right_0.k o (fun t2 n3 obj0_0_0n obj0_0_0 obj0_0_1 obj0_0_2 obj0_0_3 => k .ret [.dead, (.ptr 0 0 0 0), (.v (.bool t2)), (.v (.int .i64 n3)), .dead, .dead, .dead, .dead, .dead, .dead, .dead, .dead, .dead, .dead, .dead, .dead, .dead, .dead, .dead, .dead, .dead, .dead, .dead, .dead, .dead, .dead, .dead, .dead, .dead, .dead, .dead, .dead, .dead, .dead, .dead, .dead, .dead, .dead, .dead, .dead, .dead, .dead, .dead, .dead, .dead, .dead, .dead, .dead, .dead, .dead, .dead, .dead, .dead, .dead, .dead, .dead, .dead, .dead, .dead, .dead, .dead, .dead, .dead, .dead, .dead, .dead, .dead, .dead, .dead, .dead, .dead, .dead, .dead, .dead, .dead, .dead, .dead, .dead, .dead, .dead, .dead, .dead, .dead, .dead, .dead, .dead, .dead, .dead, .dead, .dead, .dead, .dead, .dead, .dead, .dead, .dead, .dead, .dead, .dead, .dead, .dead, .dead, .dead, .dead, .dead, .dead, .dead, .dead] [⟨[(.agg [(.lst 1 obj0_0_0n obj0_0_0), (.v (.string obj0_0_1)), (.v (.int .i64 obj0_0_2)), (.v (.int .i64 obj0_0_3))])], 0, 0, true, true, 27, 4, none⟩]) (fun n3 obj0_0_0n obj0_0_0 obj0_0_1 obj0_0_2 obj0_0_3 => k (.exit 0) [.dead, (.ptr 0 0 0 0), .dead, (.v (.int .i64 n3)), .dead, .dead, .dead, .dead, .dead, .dead, .dead, .dead, .dead, .dead, .dead, .dead, .dead, .dead, .dead, .dead, .dead, .dead, .dead, .dead, .dead, .dead, .dead, .dead, .dead, .dead, .dead, .dead, .dead, .dead, .dead, .dead, .dead, .dead, .dead, .dead, .dead, .dead, .dead, .dead, .dead, .dead, .dead, .dead, .dead, .dead, .dead, .dead, .dead, .dead, .dead, .dead, .dead, .dead, .dead, .dead, .dead, .dead, .dead, .dead, .dead, .dead, .dead, .dead, .dead, .dead, .dead, .dead, .dead, .dead, .dead, .dead, .dead, .dead, .dead, .dead, .dead, .dead, .dead, .dead, .dead, .dead, .dead, .dead, .dead, .dead, .dead, .dead, .dead, .dead, .dead, .dead, .dead, .dead, .dead, .dead, .dead, .dead, .dead, .dead, .dead, .dead, .dead, .dead] [⟨[(.agg [(.lst 1 obj0_0_0n obj0_0_0), (.v (.string obj0_0_1)), (.v (.int .i64 obj0_0_2)), (.v (.int .i64 obj0_0_3))])], 0, 0, true, true, 27, 4, none⟩])

def Fref23_Right_0 (lref23_Right_0 : Sref23_Right_0 → Option Oref23_Right_0) : LoopF := ⟨fun e h k => match Nat.beq e.length 108 with
  | true => (match e.getD 1 .dead, e.getD 3 .dead, e.getD 4 .dead, h with
    | (.ptr 0 0 0 0), (.v (.int .i64 n3)), (.v (.int .i64 i4)), [⟨[(.agg [(.lst 1 obj0_0_0n obj0_0_0), (.v (.string obj0_0_1)), (.v (.int .i64 obj0_0_2)), (.v (.int .i64 obj0_0_3))])], 0, 0, true, true, 27, 4, none⟩] => optK (lref23_Right_0 (.s0 n3 i4 obj0_0_0n obj0_0_0 obj0_0_1 obj0_0_2 obj0_0_3)) (Tref23_Right_0 k)
    | _, _, _, _ => none)
  | false => none⟩

def clref23_Right_0 : List Tmp := [0, 2, 5, 6, 7, 8, 9, 10, 11, 12, 13, 14, 15, 16, 17, 18, 19, 20, 21, 22, 23, 24, 25, 26, 27, 28, 29, 30, 31, 32, 33, 34, 35, 36, 37, 38, 39, 40, 41, 42, 43, 44, 45, 46, 47, 48, 49, 50, 51, 52, 53, 54, 55, 56, 57, 58, 59, 60, 61, 62, 63, 64, 65, 66, 67, 68, 69, 70, 71, 72, 73, 74, 75, 76, 77, 78, 79, 80, 81, 82, 83, 84, 85, 86, 87, 88, 89, 90, 91, 92, 93, 94, 95, 96, 97, 98, 99, 100, 101, 102, 103, 104, 105, 106, 107]
def cloref23_Right_0 : List Tmp := [0, 4, 5, 6, 7, 8, 9, 10, 11, 12, 13, 14, 15, 16, 17, 18, 19, 20, 21, 22, 23, 24, 25, 26, 27, 28, 29, 30, 31, 32, 33, 34, 35, 36, 37, 38, 39, 40, 41, 42, 43, 44, 45, 46, 47, 48, 49, 50, 51, 52, 53, 54, 55, 56, 57, 58, 59, 60, 61, 62, 63, 64, 65, 66, 67, 68, 69, 70, 71, 72, 73, 74, 75, 76, 77, 78, 79, 80, 81, 82, 83, 84, 85, 86, 87, 88, 89, 90, 91, 92, 93, 94, 95, 96, 97, 98, 99, 100, 101, 102, 103, 104, 105, 106, 107]

noncomputable def Rref23_Right_0 {β : Type} (K : PureK) (d : Oref23_Right_0 → Option β) (r : Sref23_Right_0 → Option β) : Sref23_Right_0 → Option β
  | .s0 n3 i4 obj0_0_0n obj0_0_0 obj0_0_1 obj0_0_2 obj0_0_3 =>
    optK (br (decide (i4 < n3))
        (some (bv (decide (i4 < 9))))
        (some (bv false))) fun wv1 =>
    Ab.asBool wv1 fun wb2 =>
    br wb2
      (br (decide (0 ≤ i4))
        (br (decide (i4 < ((obj0_0_0.length : Nat) : Int)))
          (optK obj0_0_0[i4.toNat]? fun wv3 =>
          Ab.asStr wv3 fun ws4 =>
          br (decide (((ws4.size : Nat) : Int) > 2000))
            (d (.x0 false n3 obj0_0_0n obj0_0_0 obj0_0_1 obj0_0_2 obj0_0_3))
            (r (.s0 n3 (w64 (i4 + 1)) obj0_0_0n obj0_0_0 obj0_0_1 obj0_0_2 obj0_0_3)))
          (none))
        (none))
      (d (.x1 n3 obj0_0_0n obj0_0_0 obj0_0_1 obj0_0_2 obj0_0_3))
theorem roundref23_Right_0 (K : PureK) {β : Type} (r : Env → Heap → Option β) (k : Ex → Env → Heap → Option β) (s : Sref23_Right_0) : tellOne X K 0 15 0 [(1, 1, 0), (2, 1, 0), (3, 1, 0)] 1 clref23_Right_0 cloref23_Right_0 r k (Eref23_Right_0 s) (Href23_Right_0 s) = Rref23_Right_0 K (Tref23_Right_0 k) (fun s => r (Eref23_Right_0 s) (Href23_Right_0 s)) s := by
  cases s <;> kernel_rfl
theorem Oref23_Right_0.bind_k {β γ : Type} (o : Oref23_Right_0) (c0 : Bool → Int → Bool → (List AV) → ByteArray → Int → Int → Option β) (c1 : Int → Bool → (List AV) → ByteArray → Int → Int → Option β) (φ : β → Option γ) : (Oref23_Right_0.k o c0 c1).bind φ = Oref23_Right_0.k o (fun t2 n3 obj0_0_0n obj0_0_0 obj0_0_1 obj0_0_2 obj0_0_3 => (c0 t2 n3 obj0_0_0n obj0_0_0 obj0_0_1 obj0_0_2 obj0_0_3).bind φ) (fun n3 obj0_0_0n obj0_0_0 obj0_0_1 obj0_0_2 obj0_0_3 => (c1 n3 obj0_0_0n obj0_0_0 obj0_0_1 obj0_0_2 obj0_0_3).bind φ) := by cases o <;> rfl
theorem natref23_Right_0 (K : PureK) {β γ : Type} (φ : β → Option γ) (d : Oref23_Right_0 → Option β) (r : Sref23_Right_0 → Option β) (s : Sref23_Right_0) : Rref23_Right_0 K (fun o => (d o).bind φ) (fun s => (r s).bind φ) s = (Rref23_Right_0 K d r s).bind φ := by
  cases s <;> simp only [Rref23_Right_0, bind_optK, bind_br, bind_asInt, bind_asBool, bind_asStr, bind_asLst, bind_asAgg, bind_asTup, bind_asBig, bind_asErr, bind_none]
theorem outref23_Right_0 (o : Oref23_Right_0) : ∃ x e' h', ∀ {β : Type} (k : Ex → Env → Heap → Option β), Tref23_Right_0 k o = k x e' h' := by cases o <;> exact ⟨_, _, _, fun _ => rfl⟩
theorem okref23_Right_0 {K : PureK} (hX : Sound X) (hK : KOk X K) {lref23_Right_0 : Sref23_Right_0 → Option Oref23_Right_0} (hl : ∀ s o, lref23_Right_0 s = some o → ∃ m, fuelRec (Rref23_Right_0 K some) m s = some o) (β : Type) (e : Env) (h : Heap) (k : Ex → Env → Heap → Option β) (r : β) (hr : (Fref23_Right_0 lref23_Right_0).run e h k = some r) : ∃ x e' h', k x e' h' = some r ∧ CodeAt X (.loop (loopBody (X).P 15 0)) e h x e' h' := by
  obtain ⟨fn, c, hin⟩ := loopIn_of (X := X) (f := 15) (i := 0) (key := 3) (by kernel_rfl)
  simp only [Fref23_Right_0] at hr
  split at hr
  · rename_i hlen
    have hlen := Nat.eq_of_beq_eq_true hlen
    split at hr
    · rename_i q1 q3 q4
      obtain ⟨o, ho, hr⟩ := optK_some hr
      refine tell_ok hX (KOk.congr (X := X) (Y := X) rfl rfl hK) hin (E := Eref23_Right_0) (H := Href23_Right_0) (R := fun d r => Rref23_Right_0 K d r) (T := Tref23_Right_0) (ts := [(1, 1, 0), (2, 1, 0), (3, 1, 0)]) (len := 1) (cl := clref23_Right_0) (clo := cloref23_Right_0) (roundref23_Right_0 K) (natref23_Right_0 K) outref23_Right_0 (hl _ _ ho) (cl0 := clref23_Right_0) (ts0 := []) ?_ rfl (by kernel_rfl) (by kernel_rfl) hr
      rw [clear_lit e 108 hlen, show clearEnv clref23_Right_0 ((List.range 108).map fun i => e.getD i .dead) = [.dead, e.getD 1 .dead, .dead, e.getD 3 .dead, e.getD 4 .dead, .dead, .dead, .dead, .dead, .dead, .dead, .dead, .dead, .dead, .dead, .dead, .dead, .dead, .dead, .dead, .dead, .dead, .dead, .dead, .dead, .dead, .dead, .dead, .dead, .dead, .dead, .dead, .dead, .dead, .dead, .dead, .dead, .dead, .dead, .dead, .dead, .dead, .dead, .dead, .dead, .dead, .dead, .dead, .dead, .dead, .dead, .dead, .dead, .dead, .dead, .dead, .dead, .dead, .dead, .dead, .dead, .dead, .dead, .dead, .dead, .dead, .dead, .dead, .dead, .dead, .dead, .dead, .dead, .dead, .dead, .dead, .dead, .dead, .dead, .dead, .dead, .dead, .dead, .dead, .dead, .dead, .dead, .dead, .dead, .dead, .dead, .dead, .dead, .dead, .dead, .dead, .dead, .dead, .dead, .dead, .dead, .dead, .dead, .dead, .dead, .dead, .dead, .dead] from by kernel_rfl]; rw [q1, q3, q4]
      kernel_rfl
    · cases hr
  · cases hr
noncomputable def Rref23_Right (K : PureK) (lref23_Right_0 : Sref23_Right_0 → Option Oref23_Right_0) (r0_0n : Bool) (r0_0 : List AV) (r0_1 : ByteArray) (r0_2 : Int) (r0_3 : Int) : Option AV :=
  optK (lref23_Right_0 (Sref23_Right_0.s0 (((r0_0.length : Nat) : Int)) 0 r0_0n r0_0 r0_1 r0_2 r0_3)) fun wo1 => Oref23_Right_0.k wo1
      (fun (t2_2 : Bool) (n3_2 : Int) (obj0_0_0n_2 : Bool) (obj0_0_0_2 : List AV) (obj0_0_1_2 : ByteArray) (obj0_0_2_2 : Int) (obj0_0_3_2 : Int) => some (bv t2_2))
      (fun (n3_3 : Int) (obj0_0_0n_3 : Bool) (obj0_0_0_3 : List AV) (obj0_0_1_3 : ByteArray) (obj0_0_2_3 : Int) (obj0_0_3_3 : Int) => br (obj0_0_2_3 == 0)
        (optK (br (obj0_0_3_3 == 0)
            (br (decide (((obj0_0_1_3.size : Nat) : Int) ≤ 400))
              (br (decide (n3_3 ≤ 8))
                (some (bv (n3_3.tmod 2 == 0)))
                (some (bv false)))
              (some (bv false)))
            (some (bv false))) fun wv4 =>
        Ab.asBool wv4 fun wb5 =>
        some (bv wb5))
        (br (obj0_0_2_3 == 1)
          (optK (br (decide (obj0_0_3_3 ≥ 1))
              (br (decide (obj0_0_3_3 ≤ 2000))
                (br (decide (w64 (((obj0_0_1_3.size : Nat) : Int) + obj0_0_3_3) ≤ 2000))
                  (br (decide (n3_3 ≤ 7))
                    (some (bv (n3_3.tmod 2 == 1)))
                    (some (bv false)))
                  (some (bv false)))
                (some (bv false)))
              (some (bv false))) fun wv6 =>
          Ab.asBool wv6 fun wb7 =>
          some (bv wb7))
          (br (obj0_0_2_3 == 2)
            (br (obj0_0_2_3 == 2)
              (optK (br (obj0_0_3_3 == 0)
                  (br (strEq obj0_0_1_3 ({ data := #[] } : ByteArray))
                    (some (bv (n3_3 == 0)))
                    (some (bv false)))
                  (some (bv false))) fun wv8 =>
              Ab.asBool wv8 fun wb9 =>
              some (bv wb9))
              (br (obj0_0_2_3 == 3)
                (optK (br (decide (obj0_0_3_3 ≥ 1))
                    (br (decide (obj0_0_3_3 ≤ 10000000000))
                      (br (strEq obj0_0_1_3 ({ data := #[] } : ByteArray))
                        (some (bv (n3_3 == 0)))
                        (some (bv false)))
                      (some (bv false)))
                    (some (bv false))) fun wv10 =>
                Ab.asBool wv10 fun wb11 =>
                some (bv wb11))
                (some (bv false))))
            (br (obj0_0_2_3 == 4)
              (optK (br (obj0_0_3_3 == 0)
                  (br (strEq obj0_0_1_3 ({ data := #[] } : ByteArray))
                    (some (bv (n3_3 == 0)))
                    (some (bv false)))
                  (some (bv false))) fun wv12 =>
              Ab.asBool wv12 fun wb13 =>
              some (bv wb13))
              (br (obj0_0_2_3 == 3)
                (optK (br (decide (obj0_0_3_3 ≥ 1))
                    (br (decide (obj0_0_3_3 ≤ 10000000000))
                      (br (strEq obj0_0_1_3 ({ data := #[] } : ByteArray))
                        (some (bv (n3_3 == 0)))
                        (some (bv false)))
                      (some (bv false)))
                    (some (bv false))) fun wv14 =>
                Ab.asBool wv14 fun wb15 =>
                some (bv wb15))
                (some (bv false)))))))
theorem topref23_Right (K : PureK) (lref23_Right_0 : Sref23_Right_0 → Option Oref23_Right_0) (r0_0n : Bool) (r0_0 : List AV) (r0_1 : ByteArray) (r0_2 : Int) (r0_3 : Int) : topK (addLp X 15 3 (Fref23_Right_0 lref23_Right_0)) K 0 f_ref23_Right [(.agg [(.lst 1 r0_0n r0_0), (.v (.string r0_1)), (.v (.int .i64 r0_2)), (.v (.int .i64 r0_3))])] = Rref23_Right K lref23_Right_0 r0_0n r0_0 r0_1 r0_2 r0_3 := by kernel_rfl
theorem pcref23_Right {K : PureK} (hK : KOk X K) {lref23_Right_0 : Sref23_Right_0 → Option Oref23_Right_0} (href23_Right_0 : ∀ s o, lref23_Right_0 s = some o → ∃ m, fuelRec (Rref23_Right_0 K some) m s = some o) {r0_0n : Bool} {r0_0 : List AV} {r0_1 : ByteArray} {r0_2 : Int} {r0_3 : Int} {v : AV} (h : Rref23_Right K lref23_Right_0 r0_0n r0_0 r0_1 r0_2 r0_3 = some v) : PureCall X f_ref23_Right [(.agg [(.lst 1 r0_0n r0_0), (.v (.string r0_1)), (.v (.int .i64 r0_2)), (.v (.int .i64 r0_3))])] v := by
  have hSo0 := soundX
  obtain ⟨_, _, hin0⟩ := loopIn_of (X := X) (f := 15) (i := 0) (key := 3) (by kernel_rfl)
  have hSo1 := sound_add hSo0 hin0 (okref23_Right_0 hSo0 hK href23_Right_0)
  exact tell_top (X := X) (Y := (addLp X 15 3 (Fref23_Right_0 lref23_Right_0))) rfl rfl hSo1 hK ((topref23_Right K lref23_Right_0 r0_0n r0_0 r0_1 r0_2 r0_3).trans h)

/-! 30: escheat/escheatref23.with -/
noncomputable def Rref23_with (K : PureK) (l0n : Bool) (l0 : List AV) (s1 : ByteArray) : Option AV :=
  br (lenOk (0 + l0.length) 16 && lenOk (0 + l0.length) 1)
      (br (lenOk (([] ++ l0).length + [sv s1].length) 16 && lenOk (([] ++ l0).length + [sv s1].length) 1)
        (some (AV.lst 1 false ([] ++ l0 ++ [sv s1])))
        (none))
      (none)
theorem topref23_with (K : PureK) (l0n : Bool) (l0 : List AV) (s1 : ByteArray) : topK X K 0 f_ref23_with [(.lst 1 l0n l0), (.v (.string s1))] = Rref23_with K l0n l0 s1 := by kernel_rfl
theorem pcref23_with {K : PureK} (hK : KOk X K) {l0n : Bool} {l0 : List AV} {s1 : ByteArray} {v : AV} (h : Rref23_with K l0n l0 s1 = some v) : PureCall X f_ref23_with [(.lst 1 l0n l0), (.v (.string s1))] v := by
  have hSo0 := soundX
  exact tell_top (X := X) (Y := X) rfl rfl hSo0 hK ((topref23_with K l0n l0 s1).trans h)

/-! 36: escheat/escheatref23.literal -/
inductive Sref23_literal_0 where
  | s0 (s0 : ByteArray) (n5 : Int) (size6 : Int) (unit7 : Int) (i8 : Int)

inductive Oref23_literal_0 where
  | x0 (t2 : ByteArray) (t3 : Int) (t4 : Bool)
  | x1

def Oref23_literal_0.k {β : Type} (o : Oref23_literal_0) (c0 : ByteArray → Int → Bool → Option β) (c1 : Option β) : Option β := match o with
  | .x0 t2 t3 t4 => c0 t2 t3 t4
  | .x1 => c1

def Eref23_literal_0 : Sref23_literal_0 → Env
  | .s0 s0 n5 size6 unit7 i8 => [(.v (.string s0)), .dead, .dead, .dead, .dead, (.v (.int .i64 n5)), (.v (.int .i64 size6)), (.v (.int .i64 unit7)), (.v (.int .i64 i8)), .dead, .dead, .dead, .dead, .dead, .dead, .dead, .dead, .dead, .dead, .dead, .dead, .dead, .dead, .dead, .dead, .dead, .dead, .dead, .dead, .dead, .dead, .dead, .dead, .dead, .dead, .dead, .dead, .dead, .dead, .dead, .dead, .dead, .dead, .dead, .dead, .dead, .dead, .dead, .dead, .dead, .dead, .dead, .dead, .dead, .dead, .dead, .dead, .dead, .dead, .dead, .dead, .dead, .dead, .dead]

def Href23_literal_0 : Sref23_literal_0 → Heap
  | .s0 s0 n5 size6 unit7 i8 => []

def Tref23_literal_0 {β : Type} (k : Ex → Env → Heap → Option β) (o : Oref23_literal_0) : Option β := Oref23_literal_0.k o (fun t2 t3 t4 => k .ret [.dead, .dead, (.v (.string t2)), (.v (.int .i64 t3)), (.v (.bool t4)), .dead, .dead, .dead, .dead, .dead, .dead, .dead, .dead, .dead, .dead, .dead, .dead, .dead, .dead, .dead, .dead, .dead, .dead, .dead, .dead, .dead, .dead, .dead, .dead, .dead, .dead, .dead, .dead, .dead, .dead, .dead, .dead, .dead, .dead, .dead, .dead, .dead, .dead, .dead, .dead, .dead, .dead, .dead, .dead, .dead, .dead, .dead, .dead, .dead, .dead, .dead, .dead, .dead, .dead, .dead, .dead, .dead, .dead, .dead] []) (k (.exit 0) [.dead, .dead, .dead, .dead, .dead, .dead, .dead, .dead, .dead, .dead, .dead, .dead, .dead, .dead, .dead, .dead, .dead, .dead, .dead, .dead, .dead, .dead, .dead, .dead, .dead, .dead, .dead, .dead, .dead, .dead, .dead, .dead, .dead, .dead, .dead, .dead, .dead, .dead, .dead, .dead, .dead, .dead, .dead, .dead, .dead, .dead, .dead, .dead, .dead, .dead, .dead, .dead, .dead, .dead, .dead, .dead, .dead, .dead, .dead, .dead, .dead, .dead, .dead, .dead] [])

def Fref23_literal_0 (lref23_literal_0 : Sref23_literal_0 → Option Oref23_literal_0) : LoopF := ⟨fun e h k => match Nat.beq e.length 64 with
  | true => (match e.getD 0 .dead, e.getD 5 .dead, e.getD 6 .dead, e.getD 7 .dead, e.getD 8 .dead, h with
    | (.v (.string s0)), (.v (.int .i64 n5)), (.v (.int .i64 size6)), (.v (.int .i64 unit7)), (.v (.int .i64 i8)), [] => optK (lref23_literal_0 (.s0 s0 n5 size6 unit7 i8)) (Tref23_literal_0 k)
    | _, _, _, _, _, _ => none)
  | false => none⟩

def clref23_literal_0 : List Tmp := [1, 2, 3, 4, 9, 10, 11, 12, 13, 14, 15, 16, 17, 18, 19, 20, 21, 22, 23, 24, 25, 26, 27, 28, 29, 30, 31, 32, 33, 34, 35, 36, 37, 38, 39, 40, 41, 42, 43, 44, 45, 46, 47, 48, 49, 50, 51, 52, 53, 54, 55, 56, 57, 58, 59, 60, 61, 62, 63]
def cloref23_literal_0 : List Tmp := [0, 1, 5, 6, 7, 8, 9, 10, 11, 12, 13, 14, 15, 16, 17, 18, 19, 20, 21, 22, 23, 24, 25, 26, 27, 28, 29, 30, 31, 32, 33, 34, 35, 36, 37, 38, 39, 40, 41, 42, 43, 44, 45, 46, 47, 48, 49, 50, 51, 52, 53, 54, 55, 56, 57, 58, 59, 60, 61, 62, 63]

noncomputable def Rref23_literal_0 {β : Type} (K : PureK) (d : Oref23_literal_0 → Option β) (r : Sref23_literal_0 → Option β) : Sref23_literal_0 → Option β
  | .s0 s0 n5 size6 unit7 i8 =>
    br (decide (i8 ≥ 0))
      (br (decide (0 ≤ i8))
        (br (decide (i8 < ((s0.size : Nat) : Int)))
          (br (bt s0 i8.toNat == 123)
            (br (decide (0 ≤ i8))
              (br (decide (i8 ≤ ((s0.size : Nat) : Int)))
                (d (.x0 (cutStr s0 none (some i8)) n5 (decide (size6 ≥ 1))))
                (none))
              (none))
            (optK (br (decide (0 ≤ i8))
                (br (decide (i8 < ((s0.size : Nat) : Int)))
                  (br (decide (bt s0 i8.toNat < 48))
                    (some (bv true))
                    (br (decide (0 ≤ i8))
                      (br (decide (i8 < ((s0.size : Nat) : Int)))
                        (br (decide (bt s0 i8.toNat > 57))
                          (some (bv true))
                          (some (bv (size6 == 10))))
                        (none))
                      (none)))
                  (none))
                (none)) fun wv1 =>
            Ab.asBool wv1 fun wb2 =>
            br wb2
              (d (.x1))
              (br (decide (0 ≤ i8))
                (br (decide (i8 < ((s0.size : Nat) : Int)))
                  (r (.s0 s0 (w64 (n5 + w64 (unit7 * w64 (w8 (bt s0 i8.toNat - 48))))) (w64 (size6 + 1)) (w64 (unit7 * 10)) (w64 (i8 - 1))))
                  (none))
                (none))))
          (none))
        (none))
      (d (.x1))
theorem roundref23_literal_0 (K : PureK) {β : Type} (r : Env → Heap → Option β) (k : Ex → Env → Heap → Option β) (s : Sref23_literal_0) : tellOne X K 0 36 0 [(0, 1, 0), (1, 1, 0), (2, 1, 0)] 0 clref23_literal_0 cloref23_literal_0 r k (Eref23_literal_0 s) (Href23_literal_0 s) = Rref23_literal_0 K (Tref23_literal_0 k) (fun s => r (Eref23_literal_0 s) (Href23_literal_0 s)) s := by
  cases s <;> kernel_rfl
theorem Oref23_literal_0.bind_k {β γ : Type} (o : Oref23_literal_0) (c0 : ByteArray → Int → Bool → Option β) (c1 : Option β) (φ : β → Option γ) : (Oref23_literal_0.k o c0 c1).bind φ = Oref23_literal_0.k o (fun t2 t3 t4 => (c0 t2 t3 t4).bind φ) (c1.bind φ) := by cases o <;> rfl
theorem natref23_literal_0 (K : PureK) {β γ : Type} (φ : β → Option γ) (d : Oref23_literal_0 → Option β) (r : Sref23_literal_0 → Option β) (s : Sref23_literal_0) : Rref23_literal_0 K (fun o => (d o).bind φ) (fun s => (r s).bind φ) s = (Rref23_literal_0 K d r s).bind φ := by
  cases s <;> simp only [Rref23_literal_0, bind_optK, bind_br, bind_asInt, bind_asBool, bind_asStr, bind_asLst, bind_asAgg, bind_asTup, bind_asBig, bind_asErr, bind_none]
theorem outref23_literal_0 (o : Oref23_literal_0) : ∃ x e' h', ∀ {β : Type} (k : Ex → Env → Heap → Option β), Tref23_literal_0 k o = k x e' h' := by cases o <;> exact ⟨_, _, _, fun _ => rfl⟩
theorem okref23_literal_0 {K : PureK} (hX : Sound X) (hK : KOk X K) {lref23_literal_0 : Sref23_literal_0 → Option Oref23_literal_0} (hl : ∀ s o, lref23_literal_0 s = some o → ∃ m, fuelRec (Rref23_literal_0 K some) m s = some o) (β : Type) (e : Env) (h : Heap) (k : Ex → Env → Heap → Option β) (r : β) (hr : (Fref23_literal_0 lref23_literal_0).run e h k = some r) : ∃ x e' h', k x e' h' = some r ∧ CodeAt X (.loop (loopBody (X).P 36 0)) e h x e' h' := by
  obtain ⟨fn, c, hin⟩ := loopIn_of (X := X) (f := 36) (i := 0) (key := 5) (by kernel_rfl)
  simp only [Fref23_literal_0] at hr
  split at hr
  · rename_i hlen
    have hlen := Nat.eq_of_beq_eq_true hlen
    split at hr
    · rename_i q0 q5 q6 q7 q8
      obtain ⟨o, ho, hr⟩ := optK_some hr
      refine tell_ok hX (KOk.congr (X := X) (Y := X) rfl rfl hK) hin (E := Eref23_literal_0) (H := Href23_literal_0) (R := fun d r => Rref23_literal_0 K d r) (T := Tref23_literal_0) (ts := [(0, 1, 0), (1, 1, 0), (2, 1, 0)]) (len := 0) (cl := clref23_literal_0) (clo := cloref23_literal_0) (roundref23_literal_0 K) (natref23_literal_0 K) outref23_literal_0 (hl _ _ ho) (cl0 := clref23_literal_0) (ts0 := []) ?_ rfl (by kernel_rfl) (by kernel_rfl) hr
      rw [clear_lit e 64 hlen, show clearEnv clref23_literal_0 ((List.range 64).map fun i => e.getD i .dead) = [e.getD 0 .dead, .dead, .dead, .dead, .dead, e.getD 5 .dead, e.getD 6 .dead, e.getD 7 .dead, e.getD 8 .dead, .dead, .dead, .dead, .dead, .dead, .dead, .dead, .dead, .dead, .dead, .dead, .dead, .dead, .dead, .dead, .dead, .dead, .dead, .dead, .dead, .dead, .dead, .dead, .dead, .dead, .dead, .dead, .dead, .dead, .dead, .dead, .dead, .dead, .dead, .dead, .dead, .dead, .dead, .dead, .dead, .dead, .dead, .dead, .dead, .dead, .dead, .dead, .dead, .dead, .dead, .dead, .dead, .dead, .dead, .dead] from by kernel_rfl]; rw [q0, q5, q6, q7, q8]
      kernel_rfl
    · cases hr
  · cases hr
noncomputable def Rref23_literal (K : PureK) (lref23_literal_0 : Sref23_literal_0 → Option Oref23_literal_0) (s0 : ByteArray) : Option AV :=
  optK (br (decide (((s0.size : Nat) : Int) < 3))
        (some (bv true))
        (br (decide (0 ≤ w64 (((s0.size : Nat) : Int) - 1)))
          (br (decide (w64 (((s0.size : Nat) : Int) - 1) < ((s0.size : Nat) : Int)))
            (some (bv (bt s0 (w64 (((s0.size : Nat) : Int) - 1)).toNat != 125)))
            (none))
          (none))) fun wv3 =>
    Ab.asBool wv3 fun wb4 =>
    br wb4
      (some (AV.tup [sv ({ data := #[] } : ByteArray), iv 0, bv false]))
      (optK (lref23_literal_0 (Sref23_literal_0.s0 s0 0 0 1 (w64 (((s0.size : Nat) : Int) - 2)))) fun wo5 => Oref23_literal_0.k wo5
        (fun (t2_6 : ByteArray) (t3_6 : Int) (t4_6 : Bool) => some (AV.tup [sv t2_6, iv t3_6, bv t4_6]))
        (some (AV.tup [sv ({ data := #[] } : ByteArray), iv 0, bv false])))
theorem topref23_literal (K : PureK) (lref23_literal_0 : Sref23_literal_0 → Option Oref23_literal_0) (s0 : ByteArray) : topK (addLp X 36 5 (Fref23_literal_0 lref23_literal_0)) K 0 f_ref23_literal [(.v (.string s0))] = Rref23_literal K lref23_literal_0 s0 := by kernel_rfl
theorem pcref23_literal {K : PureK} (hK : KOk X K) {lref23_literal_0 : Sref23_literal_0 → Option Oref23_literal_0} (href23_literal_0 : ∀ s o, lref23_literal_0 s = some o → ∃ m, fuelRec (Rref23_literal_0 K some) m s = some o) {s0 : ByteArray} {v : AV} (h : Rref23_literal K lref23_literal_0 s0 = some v) : PureCall X f_ref23_literal [(.v (.string s0))] v := by
  have hSo0 := soundX
  obtain ⟨_, _, hin0⟩ := loopIn_of (X := X) (f := 36) (i := 0) (key := 5) (by kernel_rfl)
  have hSo1 := sound_add hSo0 hin0 (okref23_literal_0 hSo0 hK href23_literal_0)
  exact tell_top (X := X) (Y := (addLp X 36 5 (Fref23_literal_0 lref23_literal_0))) rfl rfl hSo1 hK ((topref23_literal K lref23_literal_0 s0).trans h)

/-! 38: escheat/token.literal -/
noncomputable def Rtoken_literal (K : PureK) (s0 : ByteArray) : Option AV :=
  optK (K f_strings_CutSuffix [sv s0, sv ({ data := #[125] } : ByteArray)]) fun wv1 =>
    Ab.asTup wv1 2 fun wg2 =>
    Ab.asStr (wg2 0) fun ws3 =>
    Ab.asBool (wg2 1) fun wb4 =>
    optK (K f_strings_LastIndexByte [sv ws3, uv 123]) fun wv5 =>
    Ab.asInt wv5 .i64 fun wn6 =>
    optK (br (!wb4)
        (some (bv true))
        (some (bv (decide (wn6 < 0))))) fun wv7 =>
    Ab.asBool wv7 fun wb8 =>
    br wb8
      (some (AV.tup [sv ({ data := #[] } : ByteArray), iv 0, bv false]))
      (br (decide (0 ≤ w64 (wn6 + 1)))
        (br (decide (w64 (wn6 + 1) ≤ ((ws3.size : Nat) : Int)))
          (optK (br (strEq (cutStr ws3 (some (w64 (wn6 + 1))) none) ({ data := #[] } : ByteArray))
              (some (bv true))
              (br (decide ((((cutStr ws3 (some (w64 (wn6 + 1))) none).size : Nat) : Int) > 10))
                (some (bv true))
                (optK (K f_strings_Trim [sv (cutStr ws3 (some (w64 (wn6 + 1))) none), sv ({ data := #[48, 49, 50, 51, 52, 53, 54, 55, 56, 57] } : ByteArray)]) fun wv10 =>
                Ab.asStr wv10 fun ws11 =>
                some (bv !strEq ws11 ({ data := #[] } : ByteArray))))) fun wv9 =>
          Ab.asBool wv9 fun wb12 =>
          br wb12
            (some (AV.tup [sv ({ data := #[] } : ByteArray), iv 0, bv false]))
            (optK (K f_strconv_Atoi [sv (cutStr ws3 (some (w64 (wn6 + 1))) none)]) fun wv13 =>
            Ab.asTup wv13 2 fun wg14 =>
            Ab.asInt (wg14 0) .i64 fun wn15 =>
            br (refFree (AV.tup [iv wn15, (wg14 1)]))
              (br (decide (0 ≤ wn6))
                (br (decide (wn6 ≤ ((ws3.size : Nat) : Int)))
                  (some (AV.tup [sv (cutStr ws3 none (some wn6)), iv wn15, bv true]))
                  (none))
                (none))
              (none)))
          (none))
        (none))
theorem toptoken_literal (K : PureK) (s0 : ByteArray) : topK X K 0 f_token_literal [(.v (.string s0))] = Rtoken_literal K s0 := by kernel_rfl
theorem pctoken_literal {K : PureK} (hK : KOk X K) {s0 : ByteArray} {v : AV} (h : Rtoken_literal K s0 = some v) : PureCall X f_token_literal [(.v (.string s0))] v := by
  have hSo0 := soundX
  exact tell_top (X := X) (Y := X) rfl rfl hSo0 hK ((toptoken_literal K s0).trans h)

/-! 29: escheat/escheatref23.line -/
noncomputable def Rref23_line (K : PureK) (r0_0n : Bool) (r0_0 : List AV) (r0_1 : ByteArray) (r0_2 : Int) (r0_3 : Int) (s1 : ByteArray) : Option AV :=
  optK (br (decide (((s1.size : Nat) : Int) > 0))
        (br (decide (0 ≤ w64 (((s1.size : Nat) : Int) - 1)))
          (br (decide (w64 (((s1.size : Nat) : Int) - 1) < ((s1.size : Nat) : Int)))
            (some (bv (bt s1 (w64 (((s1.size : Nat) : Int) - 1)).toNat == 13)))
            (none))
          (none))
        (some (bv false))) fun wv1 =>
    Ab.asBool wv1 fun wb2 =>
    br wb2
      (br (decide (0 ≤ w64 (((s1.size : Nat) : Int) - 1)))
        (br (decide (w64 (((s1.size : Nat) : Int) - 1) ≤ ((s1.size : Nat) : Int)))
          (optK (K f_ref23_literal [sv (cutStr s1 none (some (w64 (((s1.size : Nat) : Int) - 1))))]) fun wv3 =>
          Ab.asTup wv3 3 fun wg4 =>
          Ab.asStr (wg4 0) fun ws5 =>
          Ab.asInt (wg4 1) .i64 fun wn6 =>
          Ab.asBool (wg4 2) fun wb7 =>
          br (!wb7)
            (optK (K f_ref23_with [AV.lst 1 r0_0n r0_0, sv (cutStr s1 none (some (w64 (((s1.size : Nat) : Int) - 1))))]) fun wv8 =>
            Ab.asLst wv8 1 fun wb9 wr9 =>
            some (AV.tup [AV.agg [AV.lst 1 true [], sv ({ data := #[] } : ByteArray), iv 0, iv 0], AV.lst 2 false [AV.agg [iv 1, AV.lst 1 wb9 wr9]]]))
            (optK (br (decide (wn6 > 2000))
                (some (bv true))
                (some (bv (((r0_0.length : Nat) : Int) == 8)))) fun wv10 =>
            Ab.asBool wv10 fun wb11 =>
            br wb11
              (optK (K f_ref23_with [AV.lst 1 r0_0n r0_0, sv ws5]) fun wv12 =>
              Ab.asLst wv12 1 fun wb13 wr13 =>
              br (wn6 == 0)
                (some (AV.tup [AV.agg [AV.lst 1 true [], sv ({ data := #[] } : ByteArray), iv 4, iv 0], AV.lst 2 false [AV.agg [iv 4, AV.lst 1 wb13 wr13]]]))
                (some (AV.tup [AV.agg [AV.lst 1 true [], sv ({ data := #[] } : ByteArray), iv 3, iv wn6], AV.lst 2 false [AV.agg [iv 4, AV.lst 1 wb13 wr13]]])))
              (br (wn6 == 0)
                (optK (K f_ref23_with [AV.lst 1 r0_0n r0_0, sv ws5]) fun wv14 =>
                Ab.asLst wv14 1 fun wb15 wr15 =>
                optK (K f_ref23_with [AV.lst 1 wb15 wr15, sv ({ data := #[] } : ByteArray)]) fun wv16 =>
                Ab.asLst wv16 1 fun wb17 wr17 =>
                some (AV.tup [AV.agg [AV.lst 1 wb17 wr17, sv ({ data := #[] } : ByteArray), iv 0, iv 0], AV.lst 2 false [AV.agg [iv 2, AV.lst 1 true []]]]))
                (optK (K f_ref23_with [AV.lst 1 r0_0n r0_0, sv ws5]) fun wv18 =>
                Ab.asLst wv18 1 fun wb19 wr19 =>
                some (AV.tup [AV.agg [AV.lst 1 wb19 wr19, sv ({ data := #[] } : ByteArray), iv 1, iv wn6], AV.lst 2 false [AV.agg [iv 2, AV.lst 1 true []]]])))))
          (none))
        (none))
      (optK (K f_ref23_literal [sv s1]) fun wv20 =>
      Ab.asTup wv20 3 fun wg21 =>
      Ab.asStr (wg21 0) fun ws22 =>
      Ab.asInt (wg21 1) .i64 fun wn23 =>
      Ab.asBool (wg21 2) fun wb24 =>
      br (!wb24)
        (optK (K f_ref23_with [AV.lst 1 r0_0n r0_0, sv s1]) fun wv25 =>
        Ab.asLst wv25 1 fun wb26 wr26 =>
        some (AV.tup [AV.agg [AV.lst 1 true [], sv ({ data := #[] } : ByteArray), iv 0, iv 0], AV.lst 2 false [AV.agg [iv 1, AV.lst 1 wb26 wr26]]]))
        (optK (br (decide (wn23 > 2000))
            (some (bv true))
            (some (bv (((r0_0.length : Nat) : Int) == 8)))) fun wv27 =>
        Ab.asBool wv27 fun wb28 =>
        br wb28
          (optK (K f_ref23_with [AV.lst 1 r0_0n r0_0, sv ws22]) fun wv29 =>
          Ab.asLst wv29 1 fun wb30 wr30 =>
          br (wn23 == 0)
            (some (AV.tup [AV.agg [AV.lst 1 true [], sv ({ data := #[] } : ByteArray), iv 4, iv 0], AV.lst 2 false [AV.agg [iv 4, AV.lst 1 wb30 wr30]]]))
            (some (AV.tup [AV.agg [AV.lst 1 true [], sv ({ data := #[] } : ByteArray), iv 3, iv wn23], AV.lst 2 false [AV.agg [iv 4, AV.lst 1 wb30 wr30]]])))
          (br (wn23 == 0)
            (optK (K f_ref23_with [AV.lst 1 r0_0n r0_0, sv ws22]) fun wv31 =>
            Ab.asLst wv31 1 fun wb32 wr32 =>
            optK (K f_ref23_with [AV.lst 1 wb32 wr32, sv ({ data := #[] } : ByteArray)]) fun wv33 =>
            Ab.asLst wv33 1 fun wb34 wr34 =>
            some (AV.tup [AV.agg [AV.lst 1 wb34 wr34, sv ({ data := #[] } : ByteArray), iv 0, iv 0], AV.lst 2 false [AV.agg [iv 2, AV.lst 1 true []]]]))
            (optK (K f_ref23_with [AV.lst 1 r0_0n r0_0, sv ws22]) fun wv35 =>
            Ab.asLst wv35 1 fun wb36 wr36 =>
            some (AV.tup [AV.agg [AV.lst 1 wb36 wr36, sv ({ data := #[] } : ByteArray), iv 1, iv wn23], AV.lst 2 false [AV.agg [iv 2, AV.lst 1 true []]]])))))
theorem topref23_line (K : PureK) (r0_0n : Bool) (r0_0 : List AV) (r0_1 : ByteArray) (r0_2 : Int) (r0_3 : Int) (s1 : ByteArray) : topK X K 0 f_ref23_line [(.agg [(.lst 1 r0_0n r0_0), (.v (.string r0_1)), (.v (.int .i64 r0_2)), (.v (.int .i64 r0_3))]), (.v (.string s1))] = Rref23_line K r0_0n r0_0 r0_1 r0_2 r0_3 s1 := by kernel_rfl
theorem pcref23_line {K : PureK} (hK : KOk X K) {r0_0n : Bool} {r0_0 : List AV} {r0_1 : ByteArray} {r0_2 : Int} {r0_3 : Int} {s1 : ByteArray} {v : AV} (h : Rref23_line K r0_0n r0_0 r0_1 r0_2 r0_3 s1 = some v) : PureCall X f_ref23_line [(.agg [(.lst 1 r0_0n r0_0), (.v (.string r0_1)), (.v (.int .i64 r0_2)), (.v (.int .i64 r0_3))]), (.v (.string s1))] v := by
  have hSo0 := soundX
  exact tell_top (X := X) (Y := X) rfl rfl hSo0 hK ((topref23_line K r0_0n r0_0 r0_1 r0_2 r0_3 s1).trans h)

/-! 21: escheat/escheatref23.one -/
noncomputable def Rref23_one (K : PureK) (r0_0n : Bool) (r0_0 : List AV) (r0_1 : ByteArray) (r0_2 : Int) (r0_3 : Int) (c1 : Int) : Option AV :=
  br (r0_2 == 0)
      (br (((r0_1.size : Nat) : Int) == 400)
        (optK (K f_ref23_one [AV.agg [AV.lst 1 true [], sv ({ data := #[] } : ByteArray), iv 2, iv 0], uv c1]) fun wv1 =>
        Ab.asTup wv1 2 fun wg2 =>
        Ab.asAgg (wg2 0) 4 fun wg3 =>
        Ab.asLst (wg3 0) 1 fun wb4 wr4 =>
        Ab.asStr (wg3 1) fun ws5 =>
        Ab.asInt (wg3 2) .i64 fun wn6 =>
        Ab.asInt (wg3 3) .i64 fun wn7 =>
        Ab.asLst (wg2 1) 2 fun wb8 wr8 =>
        some (AV.tup [AV.agg [AV.lst 1 wb4 wr4, sv ws5, iv wn6, iv wn7], AV.lst 2 wb8 wr8]))
        (br (c1 == 10)
          (optK (K f_ref23_line [AV.agg [AV.lst 1 r0_0n r0_0, sv r0_1, iv r0_2, iv r0_3], sv r0_1]) fun wv9 =>
          Ab.asTup wv9 2 fun wg10 =>
          Ab.asAgg (wg10 0) 4 fun wg11 =>
          Ab.asLst (wg11 0) 1 fun wb12 wr12 =>
          Ab.asStr (wg11 1) fun ws13 =>
          Ab.asInt (wg11 2) .i64 fun wn14 =>
          Ab.asInt (wg11 3) .i64 fun wn15 =>
          Ab.asLst (wg10 1) 2 fun wb16 wr16 =>
          some (AV.tup [AV.agg [AV.lst 1 wb12 wr12, sv ws13, iv wn14, iv wn15], AV.lst 2 wb16 wr16]))
          (br ((r0_1.size + ({ data := [UInt8.ofNat c1.toNat].reverse.toArray } : ByteArray).size).ble maxStr)
            (some (AV.tup [AV.agg [AV.lst 1 r0_0n r0_0, sv (catStr r0_1 ({ data := [UInt8.ofNat c1.toNat].reverse.toArray } : ByteArray)), iv r0_2, iv r0_3], AV.lst 2 true []]))
            (none))))
      (br (r0_2 == 1)
        (br ((r0_1.size + ({ data := [UInt8.ofNat c1.toNat].reverse.toArray } : ByteArray).size).ble maxStr)
          (br (w64 (r0_3 - 1) == 0)
            (optK (K f_ref23_with [AV.lst 1 r0_0n r0_0, sv (catStr r0_1 ({ data := [UInt8.ofNat c1.toNat].reverse.toArray } : ByteArray))]) fun wv17 =>
            Ab.asLst wv17 1 fun wb18 wr18 =>
            some (AV.tup [AV.agg [AV.lst 1 wb18 wr18, sv ({ data := #[] } : ByteArray), iv 0, iv 0], AV.lst 2 true []]))
            (some (AV.tup [AV.agg [AV.lst 1 r0_0n r0_0, sv (catStr r0_1 ({ data := [UInt8.ofNat c1.toNat].reverse.toArray } : ByteArray)), iv r0_2, iv (w64 (r0_3 - 1))], AV.lst 2 true []])))
          (none))
        (br (r0_2 == 2)
          (br (c1 == 10)
            (some (AV.tup [AV.agg [AV.lst 1 true [], sv ({ data := #[] } : ByteArray), iv 0, iv 0], AV.lst 2 false [AV.agg [iv 3, AV.lst 1 true []]]]))
            (some (AV.tup [AV.agg [AV.lst 1 r0_0n r0_0, sv r0_1, iv r0_2, iv r0_3], AV.lst 2 true []])))
          (br (r0_2 == 3)
            (br (w64 (r0_3 - 1) == 0)
              (some (AV.tup [AV.agg [AV.lst 1 true [], sv ({ data := #[] } : ByteArray), iv 4, iv 0], AV.lst 2 true []]))
              (some (AV.tup [AV.agg [AV.lst 1 r0_0n r0_0, sv r0_1, iv r0_2, iv (w64 (r0_3 - 1))], AV.lst 2 true []])))
            (br (c1 == 10)
              (some (AV.tup [AV.agg [AV.lst 1 true [], sv ({ data := #[] } : ByteArray), iv 0, iv 0], AV.lst 2 true []]))
              (some (AV.tup [AV.agg [AV.lst 1 r0_0n r0_0, sv r0_1, iv r0_2, iv r0_3], AV.lst 2 true []]))))))
theorem topref23_one (K : PureK) (r0_0n : Bool) (r0_0 : List AV) (r0_1 : ByteArray) (r0_2 : Int) (r0_3 : Int) (c1 : Int) : topK X K 0 f_ref23_one [(.agg [(.lst 1 r0_0n r0_0), (.v (.string r0_1)), (.v (.int .i64 r0_2)), (.v (.int .i64 r0_3))]), (.v (.int .u8 c1))] = Rref23_one K r0_0n r0_0 r0_1 r0_2 r0_3 c1 := by kernel_rfl
theorem pcref23_one {K : PureK} (hK : KOk X K) {r0_0n : Bool} {r0_0 : List AV} {r0_1 : ByteArray} {r0_2 : Int} {r0_3 : Int} {c1 : Int} {v : AV} (h : Rref23_one K r0_0n r0_0 r0_1 r0_2 r0_3 c1 = some v) : PureCall X f_ref23_one [(.agg [(.lst 1 r0_0n r0_0), (.v (.string r0_1)), (.v (.int .i64 r0_2)), (.v (.int .i64 r0_3))]), (.v (.int .u8 c1))] v := by
  have hSo0 := soundX
  exact tell_top (X := X) (Y := X) rfl rfl hSo0 hK ((topref23_one K r0_0n r0_0 r0_1 r0_2 r0_3 c1).trans h)

/-! 9: escheat/token.Feed -/
inductive Stoken_Feed_0 where
  | s0 (obj0_0_0n : Bool) (obj0_0_0 : List AV) (obj0_0_1 : ByteArray) (obj0_0_2 : Int) (obj0_0_3 : Int) (obj1_0_1 : ByteArray) (obj1_0_2 : Int) (obj1_0_3 : Int) (obj2_0_0n : Bool) (obj2_0_0 : List AV) (obj2_0_1 : ByteArray) (obj2_0_2 : Int) (obj2_0_3 : Int) (obj2_0_4n : Bool) (obj2_0_4 : List AV)
  | s1 (obj0_0_0n : Bool) (obj0_0_0 : List AV) (obj0_0_1 : ByteArray) (obj0_0_2 : Int) (obj0_0_3 : Int) (obj1_0_1 : ByteArray) (obj1_0_2 : Int) (obj1_0_3 : Int) (obj2_0_0n : Bool) (obj2_0_0 : List AV) (obj2_0_1 : ByteArray) (obj2_0_2 : Int) (obj2_0_3 : Int) (obj2_0_4n : Bool) (obj2_0_4 : List AV) (obj3 : List AV)

inductive Otoken_Feed_0 where
  | x0 (obj0_0_0n : Bool) (obj0_0_0 : List AV) (obj0_0_1 : ByteArray) (obj0_0_2 : Int) (obj0_0_3 : Int) (obj1_0_1 : ByteArray) (obj1_0_2 : Int) (obj1_0_3 : Int) (obj2_0_0n : Bool) (obj2_0_0 : List AV) (obj2_0_1 : ByteArray) (obj2_0_2 : Int) (obj2_0_3 : Int) (obj2_0_4n : Bool) (obj2_0_4 : List AV)
  | x1 (obj0_0_0n : Bool) (obj0_0_0 : List AV) (obj0_0_1 : ByteArray) (obj0_0_2 : Int) (obj0_0_3 : Int) (obj1_0_1 : ByteArray) (obj1_0_2 : Int) (obj1_0_3 : Int) (obj2_0_0n : Bool) (obj2_0_0 : List AV) (obj2_0_1 : ByteArray) (obj2_0_2 : Int) (obj2_0_3 : Int) (obj2_0_4n : Bool) (obj2_0_4 : List AV) (obj3 : List AV)

def Otoken_Feed_0.k {β : Type} (o : Otoken_Feed_0) (c0 : Bool → (List AV) → ByteArray → Int → Int → ByteArray → Int → Int → Bool → (List AV) → ByteArray → Int → Int → Bool → (List AV) → Option β) (c1 : Bool → (List AV) → ByteArray → Int → Int → ByteArray → Int → Int → Bool → (List AV) → ByteArray → Int → Int → Bool → (List AV) → (List AV) → Option β) : Option β := match o with
  | .x0 obj0_0_0n obj0_0_0 obj0_0_1 obj0_0_2 obj0_0_3 obj1_0_1 obj1_0_2 obj1_0_3 obj2_0_0n obj2_0_0 obj2_0_1 obj2_0_2 obj2_0_3 obj2_0_4n obj2_0_4 => c0 obj0_0_0n obj0_0_0 obj0_0_1 obj0_0_2 obj0_0_3 obj1_0_1 obj1_0_2 obj1_0_3 obj2_0_0n obj2_0_0 obj2_0_1 obj2_0_2 obj2_0_3 obj2_0_4n obj2_0_4
  | .x1 obj0_0_0n obj0_0_0 obj0_0_1 obj0_0_2 obj0_0_3 obj1_0_1 obj1_0_2 obj1_0_3 obj2_0_0n obj2_0_0 obj2_0_1 obj2_0_2 obj2_0_3 obj2_0_4n obj2_0_4 obj3 => c1 obj0_0_0n obj0_0_0 obj0_0_1 obj0_0_2 obj0_0_3 obj1_0_1 obj1_0_2 obj1_0_3 obj2_0_0n obj2_0_0 obj2_0_1 obj2_0_2 obj2_0_3 obj2_0_4n obj2_0_4 obj3

def Etoken_Feed_0 : Stoken_Feed_0 → Env
  | .s0 obj0_0_0n obj0_0_0 obj0_0_1 obj0_0_2 obj0_0_3 obj1_0_1 obj1_0_2 obj1_0_3 obj2_0_0n obj2_0_0 obj2_0_1 obj2_0_2 obj2_0_3 obj2_0_4n obj2_0_4 => [.dead, .dead, .dead, .dead, (.ptr 1 0 0 0), .dead, (.ptr 2 0 0 0), .dead, .dead, .dead, .dead, .dead, .dead, .dead, .dead, .dead, .dead, .dead, .dead, .dead, .dead, .dead, .dead, .dead, .dead, .dead, .dead, .dead, .dead, .dead, .dead]
  | .s1 obj0_0_0n obj0_0_0 obj0_0_1 obj0_0_2 obj0_0_3 obj1_0_1 obj1_0_2 obj1_0_3 obj2_0_0n obj2_0_0 obj2_0_1 obj2_0_2 obj2_0_3 obj2_0_4n obj2_0_4 obj3 => [.dead, .dead, .dead, .dead, (.ptr 1 0 0 0), .dead, (.ptr 2 0 0 0), .dead, .dead, .dead, .dead, .dead, .dead, .dead, .dead, .dead, .dead, .dead, .dead, .dead, .dead, .dead, .dead, .dead, .dead, .dead, .dead, .dead, .dead, .dead, .dead]

def Htoken_Feed_0 : Stoken_Feed_0 → Heap
  | .s0 obj0_0_0n obj0_0_0 obj0_0_1 obj0_0_2 obj0_0_3 obj1_0_1 obj1_0_2 obj1_0_3 obj2_0_0n obj2_0_0 obj2_0_1 obj2_0_2 obj2_0_3 obj2_0_4n obj2_0_4 => [⟨[(.agg [(.lst 1 obj0_0_0n obj0_0_0), (.v (.string obj0_0_1)), (.v (.int .i64 obj0_0_2)), (.v (.int .i64 obj0_0_3))])], 0, 0, true, true, 27, 4, none⟩, ⟨[(.agg [(.lst 1 true []), (.v (.string obj1_0_1)), (.v (.int .i64 obj1_0_2)), (.v (.int .i64 obj1_0_3))])], 0, 0, true, true, 27, 4, none⟩, ⟨[(.agg [(.lst 1 obj2_0_0n obj2_0_0), (.v (.string obj2_0_1)), (.v (.int .i64 obj2_0_2)), (.v (.int .i64 obj2_0_3)), (.lst 1 obj2_0_4n obj2_0_4), (.lst 2 true [])])], 0, 0, true, true, 46, 6, none⟩]
  | .s1 obj0_0_0n obj0_0_0 obj0_0_1 obj0_0_2 obj0_0_3 obj1_0_1 obj1_0_2 obj1_0_3 obj2_0_0n obj2_0_0 obj2_0_1 obj2_0_2 obj2_0_3 obj2_0_4n obj2_0_4 obj3 => [⟨[(.agg [(.lst 1 obj0_0_0n obj0_0_0), (.v (.string obj0_0_1)), (.v (.int .i64 obj0_0_2)), (.v (.int .i64 obj0_0_3))])], 0, 0, true, true, 27, 4, none⟩, ⟨[(.agg [(.lst 1 true []), (.v (.string obj1_0_1)), (.v (.int .i64 obj1_0_2)), (.v (.int .i64 obj1_0_3))])], 0, 0, true, true, 27, 4, none⟩, ⟨[(.agg [(.lst 1 obj2_0_0n obj2_0_0), (.v (.string obj2_0_1)), (.v (.int .i64 obj2_0_2)), (.v (.int .i64 obj2_0_3)), (.lst 1 obj2_0_4n obj2_0_4), (.own 3 1 0 none)])], 0, 0, true, true, 46, 6, none⟩, ⟨obj3, 1, 0, true, false, 38, 2, none⟩]

def Ttoken_Feed_0 {β : Type} (k : Ex → Env → Heap → Option β) (o : Otoken_Feed_0) : Option β := Otoken_Feed_0.k o (fun obj0_0_0n obj0_0_0 obj0_0_1 obj0_0_2 obj0_0_3 obj1_0_1 obj1_0_2 obj1_0_3 obj2_0_0n obj2_0_0 obj2_0_1 obj2_0_2 obj2_0_3 obj2_0_4n obj2_0_4 => k (.exit 0) [.dead, .dead, .dead, .dead, (.ptr 1 0 0 0), .dead, (.ptr 2 0 0 0), .dead, .dead, .dead, .dead, .dead, .dead, .dead, .dead, .dead, .dead, .dead, .dead, .dead, .dead, .dead, .dead, .dead, .dead, .dead, .dead, .dead, .dead, .dead, .dead] [⟨[(.agg [(.lst 1 obj0_0_0n obj0_0_0), (.v (.string obj0_0_1)), (.v (.int .i64 obj0_0_2)), (.v (.int .i64 obj0_0_3))])], 0, 0, true, true, 27, 4, none⟩, ⟨[(.agg [(.lst 1 true []), (.v (.string obj1_0_1)), (.v (.int .i64 obj1_0_2)), (.v (.int .i64 obj1_0_3))])], 0, 0, true, true, 27, 4, none⟩, ⟨[(.agg [(.lst 1 obj2_0_0n obj2_0_0), (.v (.string obj2_0_1)), (.v (.int .i64 obj2_0_2)), (.v (.int .i64 obj2_0_3)), (.lst 1 obj2_0_4n obj2_0_4), (.lst 2 true [])])], 0, 0, true, true, 46, 6, none⟩]) (fun obj0_0_0n obj0_0_0 obj0_0_1 obj0_0_2 obj0_0_3 obj1_0_1 obj1_0_2 obj1_0_3 obj2_0_0n obj2_0_0 obj2_0_1 obj2_0_2 obj2_0_3 obj2_0_4n obj2_0_4 obj3 => k (.exit 0) [.dead, .dead, .dead, .dead, (.ptr 1 0 0 0), .dead, (.ptr 2 0 0 0), .dead, .dead, .dead, .dead, .dead, .dead, .dead, .dead, .dead, .dead, .dead, .dead, .dead, .dead, .dead, .dead, .dead, .dead, .dead, .dead, .dead, .dead, .dead, .dead] [⟨[(.agg [(.lst 1 obj0_0_0n obj0_0_0), (.v (.string obj0_0_1)), (.v (.int .i64 obj0_0_2)), (.v (.int .i64 obj0_0_3))])], 0, 0, true, true, 27, 4, none⟩, ⟨[(.agg [(.lst 1 true []), (.v (.string obj1_0_1)), (.v (.int .i64 obj1_0_2)), (.v (.int .i64 obj1_0_3))])], 0, 0, true, true, 27, 4, none⟩, ⟨[(.agg [(.lst 1 obj2_0_0n obj2_0_0), (.v (.string obj2_0_1)), (.v (.int .i64 obj2_0_2)), (.v (.int .i64 obj2_0_3)), (.lst 1 obj2_0_4n obj2_0_4), (.own 3 1 0 none)])], 0, 0, true, true, 46, 6, none⟩, ⟨obj3, 1, 0, true, false, 38, 2, none⟩])

def Ftoken_Feed_0 (ltoken_Feed_0 : Stoken_Feed_0 → Option Otoken_Feed_0) : LoopF := ⟨fun e h k => match Nat.beq e.length 31 with
  | true => (match e.getD 4 .dead, e.getD 6 .dead, h with
    | (.ptr 1 0 0 0), (.ptr 2 0 0 0), [⟨[(.agg [(.lst 1 obj0_0_0n obj0_0_0), (.v (.string obj0_0_1)), (.v (.int .i64 obj0_0_2)), (.v (.int .i64 obj0_0_3))])], 0, 0, true, true, 27, 4, none⟩, ⟨[(.agg [(.lst 1 true []), (.v (.string obj1_0_1)), (.v (.int .i64 obj1_0_2)), (.v (.int .i64 obj1_0_3))])], 0, 0, true, true, 27, 4, none⟩, ⟨[(.agg [(.lst 1 obj2_0_0n obj2_0_0), (.v (.string obj2_0_1)), (.v (.int .i64 obj2_0_2)), (.v (.int .i64 obj2_0_3)), (.lst 1 obj2_0_4n obj2_0_4), (.lst 2 true [])])], 0, 0, true, true, 46, 6, none⟩] => optK (ltoken_Feed_0 (.s0 obj0_0_0n obj0_0_0 obj0_0_1 obj0_0_2 obj0_0_3 obj1_0_1 obj1_0_2 obj1_0_3 obj2_0_0n obj2_0_0 obj2_0_1 obj2_0_2 obj2_0_3 obj2_0_4n obj2_0_4)) (Ttoken_Feed_0 k)
    | _, _, _ => none)
  | false => none⟩

def cltoken_Feed_0 : List Tmp := [0, 1, 2, 3, 5, 7, 8, 9, 10, 11, 12, 13, 14, 15, 16, 17, 18, 19, 20, 21, 22, 23, 24, 25, 26, 27, 28, 29, 30]
def clotoken_Feed_0 : List Tmp := [0, 1, 2, 3, 5, 7, 8, 9, 10, 11, 12, 13, 14, 15, 16, 17, 18, 19, 20, 21, 22, 23, 24, 25, 26, 27, 28, 29, 30]

noncomputable def Rtoken_Feed_0 {β : Type} (K : PureK) (d : Otoken_Feed_0 → Option β) (r : Stoken_Feed_0 → Option β) : Stoken_Feed_0 → Option β
  | .s0 obj0_0_0n obj0_0_0 obj0_0_1 obj0_0_2 obj0_0_3 obj1_0_1 obj1_0_2 obj1_0_3 obj2_0_0n obj2_0_0 obj2_0_1 obj2_0_2 obj2_0_3 obj2_0_4n obj2_0_4 =>
    br (decide (((obj2_0_4.length : Nat) : Int) > 0))
      (br (obj2_0_2 == 0)
        (br (decide (0 ≤ if ((obj2_0_4.length : Nat) : Int) < w64 (400 - ((obj2_0_1.size : Nat) : Int)) then ((obj2_0_4.length : Nat) : Int) else w64 (400 - ((obj2_0_1.size : Nat) : Int))))
          (br (decide ((if ((obj2_0_4.length : Nat) : Int) < w64 (400 - ((obj2_0_1.size : Nat) : Int)) then ((obj2_0_4.length : Nat) : Int) else w64 (400 - ((obj2_0_1.size : Nat) : Int))) ≤ ((obj2_0_4.length : Nat) : Int)))
            (optK (K f_bytes_IndexByte [AV.lst 1 obj2_0_4n (List.take (if ((obj2_0_4.length : Nat) : Int) < w64 (400 - ((obj2_0_1.size : Nat) : Int)) then ((obj2_0_4.length : Nat) : Int) else w64 (400 - ((obj2_0_1.size : Nat) : Int))).toNat obj2_0_4), uv 10]) fun wv1 =>
            Ab.asInt wv1 .i64 fun wn2 =>
            br (decide (wn2 ≥ 0))
              (br (decide (0 ≤ if ((obj2_0_4.length : Nat) : Int) < wn2 then ((obj2_0_4.length : Nat) : Int) else wn2))
                (br (decide ((if ((obj2_0_4.length : Nat) : Int) < wn2 then ((obj2_0_4.length : Nat) : Int) else wn2) ≤ ((obj2_0_4.length : Nat) : Int)))
                  (br (decide (0 ≤ if ((obj2_0_4.length : Nat) : Int) < wn2 then ((obj2_0_4.length : Nat) : Int) else wn2))
                    (br (decide ((if ((obj2_0_4.length : Nat) : Int) < wn2 then ((obj2_0_4.length : Nat) : Int) else wn2) ≤ ((obj2_0_4.length : Nat) : Int)))
                      (optK (rowsBytes (List.take (if ((obj2_0_4.length : Nat) : Int) < wn2 then ((obj2_0_4.length : Nat) : Int) else wn2).toNat obj2_0_4)) fun wv3 =>
                      br ((obj2_0_1.size + ({ data := wv3.toArray } : ByteArray).size).ble maxStr)
                        (br (sameAV (sv obj2_0_1) (sv obj2_0_1))
                          (br (sameAV (sv obj2_0_1) (sv obj2_0_1))
                            (br (decide (0 ≤ if (((List.drop (if ((obj2_0_4.length : Nat) : Int) < wn2 then ((obj2_0_4.length : Nat) : Int) else wn2).toNat obj2_0_4).length : Nat) : Int) < 1 then (((List.drop (if ((obj2_0_4.length : Nat) : Int) < wn2 then ((obj2_0_4.length : Nat) : Int) else wn2).toNat obj2_0_4).length : Nat) : Int) else 1))
                              (br (decide ((if (((List.drop (if ((obj2_0_4.length : Nat) : Int) < wn2 then ((obj2_0_4.length : Nat) : Int) else wn2).toNat obj2_0_4).length : Nat) : Int) < 1 then (((List.drop (if ((obj2_0_4.length : Nat) : Int) < wn2 then ((obj2_0_4.length : Nat) : Int) else wn2).toNat obj2_0_4).length : Nat) : Int) else 1) ≤ (((List.drop (if ((obj2_0_4.length : Nat) : Int) < wn2 then ((obj2_0_4.length : Nat) : Int) else wn2).toNat obj2_0_4).length : Nat) : Int)))
                                (br (decide (0 ≤ if (((List.drop (if ((obj2_0_4.length : Nat) : Int) < wn2 then ((obj2_0_4.length : Nat) : Int) else wn2).toNat obj2_0_4).length : Nat) : Int) < 1 then (((List.drop (if ((obj2_0_4.length : Nat) : Int) < wn2 then ((obj2_0_4.length : Nat) : Int) else wn2).toNat obj2_0_4).length : Nat) : Int) else 1))
                                  (br (decide ((if (((List.drop (if ((obj2_0_4.length : Nat) : Int) < wn2 then ((obj2_0_4.length : Nat) : Int) else wn2).toNat obj2_0_4).length : Nat) : Int) < 1 then (((List.drop (if ((obj2_0_4.length : Nat) : Int) < wn2 then ((obj2_0_4.length : Nat) : Int) else wn2).toNat obj2_0_4).length : Nat) : Int) else 1) ≤ (((List.drop (if ((obj2_0_4.length : Nat) : Int) < wn2 then ((obj2_0_4.length : Nat) : Int) else wn2).toNat obj2_0_4).length : Nat) : Int)))
                                    (optK (K f_strings_TrimSuffix [sv (catStr obj2_0_1 ({ data := wv3.toArray } : ByteArray)), sv ({ data := #[13] } : ByteArray)]) fun wv4 =>
                                    Ab.asStr wv4 fun ws5 =>
                                    optK (K f_token_literal [sv ws5]) fun wv6 =>
                                    Ab.asTup wv6 3 fun wg7 =>
                                    Ab.asStr (wg7 0) fun ws8 =>
                                    Ab.asInt (wg7 1) .i64 fun wn9 =>
                                    Ab.asBool (wg7 2) fun wb10 =>
                                    br (!wb10)
                                      (optK (K f_slices_Concat_string_string [AV.lst 1 false [AV.lst 1 obj2_0_0n obj2_0_0, AV.lst 1 false [sv ws5]]]) fun wv11 =>
                                      Ab.asLst wv11 1 fun wb12 wr12 =>
                                      r (.s1 obj0_0_0n obj0_0_0 obj0_0_1 obj0_0_2 obj0_0_3 obj1_0_1 obj1_0_2 obj1_0_3 true [] ({ data := #[] } : ByteArray) 0 0 obj2_0_4n (List.drop (if (((List.drop (if ((obj2_0_4.length : Nat) : Int) < wn2 then ((obj2_0_4.length : Nat) : Int) else wn2).toNat obj2_0_4).length : Nat) : Int) < 1 then (((List.drop (if ((obj2_0_4.length : Nat) : Int) < wn2 then ((obj2_0_4.length : Nat) : Int) else wn2).toNat obj2_0_4).length : Nat) : Int) else 1).toNat (List.drop (if ((obj2_0_4.length : Nat) : Int) < wn2 then ((obj2_0_4.length : Nat) : Int) else wn2).toNat obj2_0_4)) [AV.agg [iv 1, AV.lst 1 wb12 wr12]]))
                                      (optK (br (decide (wn9 > 2000))
                                          (some (bv true))
                                          (some (bv (((obj2_0_0.length : Nat) : Int) == 8)))) fun wv13 =>
                                      Ab.asBool wv13 fun wb14 =>
                                      br wb14
                                        (optK (K f_slices_Concat_string_string [AV.lst 1 false [AV.lst 1 obj2_0_0n obj2_0_0, AV.lst 1 false [sv ws8]]]) fun wv15 =>
                                        Ab.asLst wv15 1 fun wb16 wr16 =>
                                        br (wn9 == 0)
                                          (r (.s1 obj0_0_0n obj0_0_0 obj0_0_1 obj0_0_2 obj0_0_3 obj1_0_1 obj1_0_2 obj1_0_3 true [] ({ data := #[] } : ByteArray) 4 wn9 obj2_0_4n (List.drop (if (((List.drop (if ((obj2_0_4.length : Nat) : Int) < wn2 then ((obj2_0_4.length : Nat) : Int) else wn2).toNat obj2_0_4).length : Nat) : Int) < 1 then (((List.drop (if ((obj2_0_4.length : Nat) : Int) < wn2 then ((obj2_0_4.length : Nat) : Int) else wn2).toNat obj2_0_4).length : Nat) : Int) else 1).toNat (List.drop (if ((obj2_0_4.length : Nat) : Int) < wn2 then ((obj2_0_4.length : Nat) : Int) else wn2).toNat obj2_0_4)) [AV.agg [iv 4, AV.lst 1 wb16 wr16]]))
                                          (r (.s1 obj0_0_0n obj0_0_0 obj0_0_1 obj0_0_2 obj0_0_3 obj1_0_1 obj1_0_2 obj1_0_3 true [] ({ data := #[] } : ByteArray) 3 wn9 obj2_0_4n (List.drop (if (((List.drop (if ((obj2_0_4.length : Nat) : Int) < wn2 then ((obj2_0_4.length : Nat) : Int) else wn2).toNat obj2_0_4).length : Nat) : Int) < 1 then (((List.drop (if ((obj2_0_4.length : Nat) : Int) < wn2 then ((obj2_0_4.length : Nat) : Int) else wn2).toNat obj2_0_4).length : Nat) : Int) else 1).toNat (List.drop (if ((obj2_0_4.length : Nat) : Int) < wn2 then ((obj2_0_4.length : Nat) : Int) else wn2).toNat obj2_0_4)) [AV.agg [iv 4, AV.lst 1 wb16 wr16]])))
                                        (br (wn9 == 0)
                                          (optK (K f_slices_Concat_string_string [AV.lst 1 false [AV.lst 1 obj2_0_0n obj2_0_0, AV.lst 1 false [sv ws8, sv ({ data := #[] } : ByteArray)]]]) fun wv17 =>
                                          Ab.asLst wv17 1 fun wb18 wr18 =>
                                          r (.s1 obj0_0_0n obj0_0_0 obj0_0_1 obj0_0_2 obj0_0_3 obj1_0_1 obj1_0_2 obj1_0_3 wb18 wr18 ({ data := #[] } : ByteArray) 0 0 obj2_0_4n (List.drop (if (((List.drop (if ((obj2_0_4.length : Nat) : Int) < wn2 then ((obj2_0_4.length : Nat) : Int) else wn2).toNat obj2_0_4).length : Nat) : Int) < 1 then (((List.drop (if ((obj2_0_4.length : Nat) : Int) < wn2 then ((obj2_0_4.length : Nat) : Int) else wn2).toNat obj2_0_4).length : Nat) : Int) else 1).toNat (List.drop (if ((obj2_0_4.length : Nat) : Int) < wn2 then ((obj2_0_4.length : Nat) : Int) else wn2).toNat obj2_0_4)) [AV.agg [iv 2, AV.lst 1 true []]]))
                                          (optK (K f_slices_Concat_string_string [AV.lst 1 false [AV.lst 1 obj2_0_0n obj2_0_0, AV.lst 1 false [sv ws8]]]) fun wv19 =>
                                          Ab.asLst wv19 1 fun wb20 wr20 =>
                                          r (.s1 obj0_0_0n obj0_0_0 obj0_0_1 obj0_0_2 obj0_0_3 obj1_0_1 obj1_0_2 obj1_0_3 wb20 wr20 ({ data := #[] } : ByteArray) 1 wn9 obj2_0_4n (List.drop (if (((List.drop (if ((obj2_0_4.length : Nat) : Int) < wn2 then ((obj2_0_4.length : Nat) : Int) else wn2).toNat obj2_0_4).length : Nat) : Int) < 1 then (((List.drop (if ((obj2_0_4.length : Nat) : Int) < wn2 then ((obj2_0_4.length : Nat) : Int) else wn2).toNat obj2_0_4).length : Nat) : Int) else 1).toNat (List.drop (if ((obj2_0_4.length : Nat) : Int) < wn2 then ((obj2_0_4.length : Nat) : Int) else wn2).toNat obj2_0_4)) [AV.agg [iv 2, AV.lst 1 true []]])))))
                                    (none))
                                  (none))
                                (none))
                              (none))
                            (none))
                          (none))
                        (none))
                      (none))
                    (none))
                  (none))
                (none))
              (br (decide (((obj2_0_4.length : Nat) : Int) > w64 (400 - ((obj2_0_1.size : Nat) : Int))))
                (br (decide (0 ≤ if ((obj2_0_4.length : Nat) : Int) < w64 (400 - ((obj2_0_1.size : Nat) : Int)) then ((obj2_0_4.length : Nat) : Int) else w64 (400 - ((obj2_0_1.size : Nat) : Int))))
                  (br (decide ((if ((obj2_0_4.length : Nat) : Int) < w64 (400 - ((obj2_0_1.size : Nat) : Int)) then ((obj2_0_4.length : Nat) : Int) else w64 (400 - ((obj2_0_1.size : Nat) : Int))) ≤ ((obj2_0_4.length : Nat) : Int)))
                    (br (decide (0 ≤ if ((obj2_0_4.length : Nat) : Int) < w64 (400 - ((obj2_0_1.size : Nat) : Int)) then ((obj2_0_4.length : Nat) : Int) else w64 (400 - ((obj2_0_1.size : Nat) : Int))))
                      (br (decide ((if ((obj2_0_4.length : Nat) : Int) < w64 (400 - ((obj2_0_1.size : Nat) : Int)) then ((obj2_0_4.length : Nat) : Int) else w64 (400 - ((obj2_0_1.size : Nat) : Int))) ≤ ((obj2_0_4.length : Nat) : Int)))
                        (r (.s0 obj0_0_0n obj0_0_0 obj0_0_1 obj0_0_2 obj0_0_3 obj1_0_1 obj1_0_2 obj1_0_3 true [] ({ data := #[] } : ByteArray) 2 0 obj2_0_4n (List.drop (if ((obj2_0_4.length : Nat) : Int) < w64 (400 - ((obj2_0_1.size : Nat) : Int)) then ((obj2_0_4.length : Nat) : Int) else w64 (400 - ((obj2_0_1.size : Nat) : Int))).toNat obj2_0_4)))
                        (none))
                      (none))
                    (none))
                  (none))
                (br (decide (0 ≤ if ((obj2_0_4.length : Nat) : Int) < ((obj2_0_4.length : Nat) : Int) then ((obj2_0_4.length : Nat) : Int) else ((obj2_0_4.length : Nat) : Int)))
                  (br (decide ((if ((obj2_0_4.length : Nat) : Int) < ((obj2_0_4.length : Nat) : Int) then ((obj2_0_4.length : Nat) : Int) else ((obj2_0_4.length : Nat) : Int)) ≤ ((obj2_0_4.length : Nat) : Int)))
                    (br (decide (0 ≤ if ((obj2_0_4.length : Nat) : Int) < ((obj2_0_4.length : Nat) : Int) then ((obj2_0_4.length : Nat) : Int) else ((obj2_0_4.length : Nat) : Int)))
                      (br (decide ((if ((obj2_0_4.length : Nat) : Int) < ((obj2_0_4.length : Nat) : Int) then ((obj2_0_4.length : Nat) : Int) else ((obj2_0_4.length : Nat) : Int)) ≤ ((obj2_0_4.length : Nat) : Int)))
                        (optK (rowsBytes (List.take (if ((obj2_0_4.length : Nat) : Int) < ((obj2_0_4.length : Nat) : Int) then ((obj2_0_4.length : Nat) : Int) else ((obj2_0_4.length : Nat) : Int)).toNat obj2_0_4)) fun wv21 =>
                        br ((obj2_0_1.size + ({ data := wv21.toArray } : ByteArray).size).ble maxStr)
                          (br (sameAV (sv obj2_0_1) (sv obj2_0_1))
                            (br (sameAV (sv obj2_0_1) (sv obj2_0_1))
                              (r (.s0 obj0_0_0n obj0_0_0 obj0_0_1 obj0_0_2 obj0_0_3 obj1_0_1 obj1_0_2 obj1_0_3 obj2_0_0n obj2_0_0 (catStr obj2_0_1 ({ data := wv21.toArray } : ByteArray)) obj2_0_2 obj2_0_3 obj2_0_4n (List.drop (if ((obj2_0_4.length : Nat) : Int) < ((obj2_0_4.length : Nat) : Int) then ((obj2_0_4.length : Nat) : Int) else ((obj2_0_4.length : Nat) : Int)).toNat obj2_0_4)))
                              (none))
                            (none))
                          (none))
                        (none))
                      (none))
                    (none))
                  (none))))
            (none))
          (none))
        (br (obj2_0_2 == 1)
          (br (decide (0 ≤ if ((obj2_0_4.length : Nat) : Int) < obj2_0_3 then ((obj2_0_4.length : Nat) : Int) else obj2_0_3))
            (br (decide ((if ((obj2_0_4.length : Nat) : Int) < obj2_0_3 then ((obj2_0_4.length : Nat) : Int) else obj2_0_3) ≤ ((obj2_0_4.length : Nat) : Int)))
              (br (decide (0 ≤ if ((obj2_0_4.length : Nat) : Int) < obj2_0_3 then ((obj2_0_4.length : Nat) : Int) else obj2_0_3))
                (br (decide ((if ((obj2_0_4.length : Nat) : Int) < obj2_0_3 then ((obj2_0_4.length : Nat) : Int) else obj2_0_3) ≤ ((obj2_0_4.length : Nat) : Int)))
                  (optK (rowsBytes (List.take (if ((obj2_0_4.length : Nat) : Int) < obj2_0_3 then ((obj2_0_4.length : Nat) : Int) else obj2_0_3).toNat obj2_0_4)) fun wv22 =>
                  br ((obj2_0_1.size + ({ data := wv22.toArray } : ByteArray).size).ble maxStr)
                    (br (w64 (obj2_0_3 - (((List.take (if ((obj2_0_4.length : Nat) : Int) < obj2_0_3 then ((obj2_0_4.length : Nat) : Int) else obj2_0_3).toNat obj2_0_4).length : Nat) : Int)) == 0)
                      (optK (K f_slices_Concat_string_string [AV.lst 1 false [AV.lst 1 obj2_0_0n obj2_0_0, AV.lst 1 false [sv (catStr obj2_0_1 ({ data := wv22.toArray } : ByteArray))]]]) fun wv23 =>
                      Ab.asLst wv23 1 fun wb24 wr24 =>
                      r (.s0 obj0_0_0n obj0_0_0 obj0_0_1 obj0_0_2 obj0_0_3 obj1_0_1 obj1_0_2 obj1_0_3 wb24 wr24 ({ data := #[] } : ByteArray) 0 0 obj2_0_4n (List.drop (if ((obj2_0_4.length : Nat) : Int) < obj2_0_3 then ((obj2_0_4.length : Nat) : Int) else obj2_0_3).toNat obj2_0_4)))
                      (r (.s0 obj0_0_0n obj0_0_0 obj0_0_1 obj0_0_2 obj0_0_3 obj1_0_1 obj1_0_2 obj1_0_3 obj2_0_0n obj2_0_0 (catStr obj2_0_1 ({ data := wv22.toArray } : ByteArray)) obj2_0_2 (w64 (obj2_0_3 - (((List.take (if ((obj2_0_4.length : Nat) : Int) < obj2_0_3 then ((obj2_0_4.length : Nat) : Int) else obj2_0_3).toNat obj2_0_4).length : Nat) : Int))) obj2_0_4n (List.drop (if ((obj2_0_4.length : Nat) : Int) < obj2_0_3 then ((obj2_0_4.length : Nat) : Int) else obj2_0_3).toNat obj2_0_4))))
                    (none))
                  (none))
                (none))
              (none))
            (none))
          (br (obj2_0_2 == 3)
            (br (decide (0 ≤ if ((obj2_0_4.length : Nat) : Int) < obj2_0_3 then ((obj2_0_4.length : Nat) : Int) else obj2_0_3))
              (br (decide ((if ((obj2_0_4.length : Nat) : Int) < obj2_0_3 then ((obj2_0_4.length : Nat) : Int) else obj2_0_3) ≤ ((obj2_0_4.length : Nat) : Int)))
                (br (decide (0 ≤ if ((obj2_0_4.length : Nat) : Int) < obj2_0_3 then ((obj2_0_4.length : Nat) : Int) else obj2_0_3))
                  (br (decide ((if ((obj2_0_4.length : Nat) : Int) < obj2_0_3 then ((obj2_0_4.length : Nat) : Int) else obj2_0_3) ≤ ((obj2_0_4.length : Nat) : Int)))
                    (br (sameAV (iv obj2_0_3) (iv obj2_0_3))
                      (br (sameAV (iv obj2_0_3) (iv obj2_0_3))
                        (br (w64 (obj2_0_3 - (((List.take (if ((obj2_0_4.length : Nat) : Int) < obj2_0_3 then ((obj2_0_4.length : Nat) : Int) else obj2_0_3).toNat obj2_0_4).length : Nat) : Int)) == 0)
                          (r (.s0 obj0_0_0n obj0_0_0 obj0_0_1 obj0_0_2 obj0_0_3 obj1_0_1 obj1_0_2 obj1_0_3 obj2_0_0n obj2_0_0 obj2_0_1 4 (w64 (obj2_0_3 - (((List.take (if ((obj2_0_4.length : Nat) : Int) < obj2_0_3 then ((obj2_0_4.length : Nat) : Int) else obj2_0_3).toNat obj2_0_4).length : Nat) : Int))) obj2_0_4n (List.drop (if ((obj2_0_4.length : Nat) : Int) < obj2_0_3 then ((obj2_0_4.length : Nat) : Int) else obj2_0_3).toNat obj2_0_4)))
                          (r (.s0 obj0_0_0n obj0_0_0 obj0_0_1 obj0_0_2 obj0_0_3 obj1_0_1 obj1_0_2 obj1_0_3 obj2_0_0n obj2_0_0 obj2_0_1 obj2_0_2 (w64 (obj2_0_3 - (((List.take (if ((obj2_0_4.length : Nat) : Int) < obj2_0_3 then ((obj2_0_4.length : Nat) : Int) else obj2_0_3).toNat obj2_0_4).length : Nat) : Int))) obj2_0_4n (List.drop (if ((obj2_0_4.length : Nat) : Int) < obj2_0_3 then ((obj2_0_4.length : Nat) : Int) else obj2_0_3).toNat obj2_0_4))))
                        (none))
                      (none))
                    (none))
                  (none))
                (none))
              (none))
            (br (obj2_0_2 == 2)
              (optK (K f_bytes_Cut [AV.lst 1 obj2_0_4n obj2_0_4, AV.lst 1 false [uv 10]]) fun wv25 =>
              Ab.asTup wv25 3 fun wg26 =>
              Ab.asLst (wg26 0) 1 fun wb27 wr27 =>
              Ab.asLst (wg26 1) 1 fun wb28 wr28 =>
              Ab.asBool (wg26 2) fun wb29 =>
              br wb29
                (r (.s1 obj0_0_0n obj0_0_0 obj0_0_1 obj0_0_2 obj0_0_3 obj1_0_1 obj1_0_2 obj1_0_3 true [] ({ data := #[] } : ByteArray) 0 0 wb28 wr28 [AV.agg [iv 3, AV.lst 1 true []]]))
                (r (.s0 obj0_0_0n obj0_0_0 obj0_0_1 obj0_0_2 obj0_0_3 obj1_0_1 obj1_0_2 obj1_0_3 obj2_0_0n obj2_0_0 obj2_0_1 obj2_0_2 obj2_0_3 wb28 wr28)))
              (br (obj2_0_2 == 4)
                (optK (K f_bytes_Cut [AV.lst 1 obj2_0_4n obj2_0_4, AV.lst 1 false [uv 10]]) fun wv30 =>
                Ab.asTup wv30 3 fun wg31 =>
                Ab.asLst (wg31 0) 1 fun wb32 wr32 =>
                Ab.asLst (wg31 1) 1 fun wb33 wr33 =>
                Ab.asBool (wg31 2) fun wb34 =>
                br wb34
                  (r (.s0 obj0_0_0n obj0_0_0 obj0_0_1 obj0_0_2 obj0_0_3 obj1_0_1 obj1_0_2 obj1_0_3 true [] ({ data := #[] } : ByteArray) 0 0 wb33 wr33))
                  (r (.s0 obj0_0_0n obj0_0_0 obj0_0_1 obj0_0_2 obj0_0_3 obj1_0_1 obj1_0_2 obj1_0_3 obj2_0_0n obj2_0_0 obj2_0_1 obj2_0_2 obj2_0_3 wb33 wr33)))
                (r (.s0 obj0_0_0n obj0_0_0 obj0_0_1 obj0_0_2 obj0_0_3 obj1_0_1 obj1_0_2 obj1_0_3 obj2_0_0n obj2_0_0 obj2_0_1 obj2_0_2 obj2_0_3 obj2_0_4n obj2_0_4)))))))
      (d (.x0 obj0_0_0n obj0_0_0 obj0_0_1 obj0_0_2 obj0_0_3 obj1_0_1 obj1_0_2 obj1_0_3 obj2_0_0n obj2_0_0 obj2_0_1 obj2_0_2 obj2_0_3 obj2_0_4n obj2_0_4))
  | .s1 obj0_0_0n obj0_0_0 obj0_0_1 obj0_0_2 obj0_0_3 obj1_0_1 obj1_0_2 obj1_0_3 obj2_0_0n obj2_0_0 obj2_0_1 obj2_0_2 obj2_0_3 obj2_0_4n obj2_0_4 obj3 =>
    br (decide (((obj2_0_4.length : Nat) : Int) > 0))
      (br (obj2_0_2 == 0)
        (br (decide (0 ≤ if ((obj2_0_4.length : Nat) : Int) < w64 (400 - ((obj2_0_1.size : Nat) : Int)) then ((obj2_0_4.length : Nat) : Int) else w64 (400 - ((obj2_0_1.size : Nat) : Int))))
          (br (decide ((if ((obj2_0_4.length : Nat) : Int) < w64 (400 - ((obj2_0_1.size : Nat) : Int)) then ((obj2_0_4.length : Nat) : Int) else w64 (400 - ((obj2_0_1.size : Nat) : Int))) ≤ ((obj2_0_4.length : Nat) : Int)))
            (optK (K f_bytes_IndexByte [AV.lst 1 obj2_0_4n (List.take (if ((obj2_0_4.length : Nat) : Int) < w64 (400 - ((obj2_0_1.size : Nat) : Int)) then ((obj2_0_4.length : Nat) : Int) else w64 (400 - ((obj2_0_1.size : Nat) : Int))).toNat obj2_0_4), uv 10]) fun wv35 =>
            Ab.asInt wv35 .i64 fun wn36 =>
            br (decide (wn36 ≥ 0))
              (br (decide (0 ≤ if ((obj2_0_4.length : Nat) : Int) < wn36 then ((obj2_0_4.length : Nat) : Int) else wn36))
                (br (decide ((if ((obj2_0_4.length : Nat) : Int) < wn36 then ((obj2_0_4.length : Nat) : Int) else wn36) ≤ ((obj2_0_4.length : Nat) : Int)))
                  (br (decide (0 ≤ if ((obj2_0_4.length : Nat) : Int) < wn36 then ((obj2_0_4.length : Nat) : Int) else wn36))
                    (br (decide ((if ((obj2_0_4.length : Nat) : Int) < wn36 then ((obj2_0_4.length : Nat) : Int) else wn36) ≤ ((obj2_0_4.length : Nat) : Int)))
                      (optK (rowsBytes (List.take (if ((obj2_0_4.length : Nat) : Int) < wn36 then ((obj2_0_4.length : Nat) : Int) else wn36).toNat obj2_0_4)) fun wv37 =>
                      br ((obj2_0_1.size + ({ data := wv37.toArray } : ByteArray).size).ble maxStr)
                        (br (sameAV (sv obj2_0_1) (sv obj2_0_1))
                          (br (sameAV (sv obj2_0_1) (sv obj2_0_1))
                            (br (decide (0 ≤ if (((List.drop (if ((obj2_0_4.length : Nat) : Int) < wn36 then ((obj2_0_4.length : Nat) : Int) else wn36).toNat obj2_0_4).length : Nat) : Int) < 1 then (((List.drop (if ((obj2_0_4.length : Nat) : Int) < wn36 then ((obj2_0_4.length : Nat) : Int) else wn36).toNat obj2_0_4).length : Nat) : Int) else 1))
                              (br (decide ((if (((List.drop (if ((obj2_0_4.length : Nat) : Int) < wn36 then ((obj2_0_4.length : Nat) : Int) else wn36).toNat obj2_0_4).length : Nat) : Int) < 1 then (((List.drop (if ((obj2_0_4.length : Nat) : Int) < wn36 then ((obj2_0_4.length : Nat) : Int) else wn36).toNat obj2_0_4).length : Nat) : Int) else 1) ≤ (((List.drop (if ((obj2_0_4.length : Nat) : Int) < wn36 then ((obj2_0_4.length : Nat) : Int) else wn36).toNat obj2_0_4).length : Nat) : Int)))
                                (br (decide (0 ≤ if (((List.drop (if ((obj2_0_4.length : Nat) : Int) < wn36 then ((obj2_0_4.length : Nat) : Int) else wn36).toNat obj2_0_4).length : Nat) : Int) < 1 then (((List.drop (if ((obj2_0_4.length : Nat) : Int) < wn36 then ((obj2_0_4.length : Nat) : Int) else wn36).toNat obj2_0_4).length : Nat) : Int) else 1))
                                  (br (decide ((if (((List.drop (if ((obj2_0_4.length : Nat) : Int) < wn36 then ((obj2_0_4.length : Nat) : Int) else wn36).toNat obj2_0_4).length : Nat) : Int) < 1 then (((List.drop (if ((obj2_0_4.length : Nat) : Int) < wn36 then ((obj2_0_4.length : Nat) : Int) else wn36).toNat obj2_0_4).length : Nat) : Int) else 1) ≤ (((List.drop (if ((obj2_0_4.length : Nat) : Int) < wn36 then ((obj2_0_4.length : Nat) : Int) else wn36).toNat obj2_0_4).length : Nat) : Int)))
                                    (optK (K f_strings_TrimSuffix [sv (catStr obj2_0_1 ({ data := wv37.toArray } : ByteArray)), sv ({ data := #[13] } : ByteArray)]) fun wv38 =>
                                    Ab.asStr wv38 fun ws39 =>
                                    optK (K f_token_literal [sv ws39]) fun wv40 =>
                                    Ab.asTup wv40 3 fun wg41 =>
                                    Ab.asStr (wg41 0) fun ws42 =>
                                    Ab.asInt (wg41 1) .i64 fun wn43 =>
                                    Ab.asBool (wg41 2) fun wb44 =>
                                    br (!wb44)
                                      (optK (K f_slices_Concat_string_string [AV.lst 1 false [AV.lst 1 obj2_0_0n obj2_0_0, AV.lst 1 false [sv ws39]]]) fun wv45 =>
                                      Ab.asLst wv45 1 fun wb46 wr46 =>
                                      br (lenOk (obj3.length + [AV.agg [iv 1, AV.lst 1 wb46 wr46]].length) 32 && lenOk (obj3.length + [AV.agg [iv 1, AV.lst 1 wb46 wr46]].length) 1)
                                        (r (.s1 obj0_0_0n obj0_0_0 obj0_0_1 obj0_0_2 obj0_0_3 obj1_0_1 obj1_0_2 obj1_0_3 true [] ({ data := #[] } : ByteArray) 0 0 obj2_0_4n (List.drop (if (((List.drop (if ((obj2_0_4.length : Nat) : Int) < wn36 then ((obj2_0_4.length : Nat) : Int) else wn36).toNat obj2_0_4).length : Nat) : Int) < 1 then (((List.drop (if ((obj2_0_4.length : Nat) : Int) < wn36 then ((obj2_0_4.length : Nat) : Int) else wn36).toNat obj2_0_4).length : Nat) : Int) else 1).toNat (List.drop (if ((obj2_0_4.length : Nat) : Int) < wn36 then ((obj2_0_4.length : Nat) : Int) else wn36).toNat obj2_0_4)) (obj3 ++ [AV.agg [iv 1, AV.lst 1 wb46 wr46]])))
                                        (none))
                                      (optK (br (decide (wn43 > 2000))
                                          (some (bv true))
                                          (some (bv (((obj2_0_0.length : Nat) : Int) == 8)))) fun wv47 =>
                                      Ab.asBool wv47 fun wb48 =>
                                      br wb48
                                        (optK (K f_slices_Concat_string_string [AV.lst 1 false [AV.lst 1 obj2_0_0n obj2_0_0, AV.lst 1 false [sv ws42]]]) fun wv49 =>
                                        Ab.asLst wv49 1 fun wb50 wr50 =>
                                        br (lenOk (obj3.length + [AV.agg [iv 4, AV.lst 1 wb50 wr50]].length) 32 && lenOk (obj3.length + [AV.agg [iv 4, AV.lst 1 wb50 wr50]].length) 1)
                                          (br (wn43 == 0)
                                            (r (.s1 obj0_0_0n obj0_0_0 obj0_0_1 obj0_0_2 obj0_0_3 obj1_0_1 obj1_0_2 obj1_0_3 true [] ({ data := #[] } : ByteArray) 4 wn43 obj2_0_4n (List.drop (if (((List.drop (if ((obj2_0_4.length : Nat) : Int) < wn36 then ((obj2_0_4.length : Nat) : Int) else wn36).toNat obj2_0_4).length : Nat) : Int) < 1 then (((List.drop (if ((obj2_0_4.length : Nat) : Int) < wn36 then ((obj2_0_4.length : Nat) : Int) else wn36).toNat obj2_0_4).length : Nat) : Int) else 1).toNat (List.drop (if ((obj2_0_4.length : Nat) : Int) < wn36 then ((obj2_0_4.length : Nat) : Int) else wn36).toNat obj2_0_4)) (obj3 ++ [AV.agg [iv 4, AV.lst 1 wb50 wr50]])))
                                            (r (.s1 obj0_0_0n obj0_0_0 obj0_0_1 obj0_0_2 obj0_0_3 obj1_0_1 obj1_0_2 obj1_0_3 true [] ({ data := #[] } : ByteArray) 3 wn43 obj2_0_4n (List.drop (if (((List.drop (if ((obj2_0_4.length : Nat) : Int) < wn36 then ((obj2_0_4.length : Nat) : Int) else wn36).toNat obj2_0_4).length : Nat) : Int) < 1 then (((List.drop (if ((obj2_0_4.length : Nat) : Int) < wn36 then ((obj2_0_4.length : Nat) : Int) else wn36).toNat obj2_0_4).length : Nat) : Int) else 1).toNat (List.drop (if ((obj2_0_4.length : Nat) : Int) < wn36 then ((obj2_0_4.length : Nat) : Int) else wn36).toNat obj2_0_4)) (obj3 ++ [AV.agg [iv 4, AV.lst 1 wb50 wr50]]))))
                                          (none))
                                        (br (wn43 == 0)
                                          (br (lenOk (obj3.length + 1) 32 && lenOk (obj3.length + 1) 1)
                                            (optK (K f_slices_Concat_string_string [AV.lst 1 false [AV.lst 1 obj2_0_0n obj2_0_0, AV.lst 1 false [sv ws42, sv ({ data := #[] } : ByteArray)]]]) fun wv51 =>
                                            Ab.asLst wv51 1 fun wb52 wr52 =>
                                            r (.s1 obj0_0_0n obj0_0_0 obj0_0_1 obj0_0_2 obj0_0_3 obj1_0_1 obj1_0_2 obj1_0_3 wb52 wr52 ({ data := #[] } : ByteArray) 0 0 obj2_0_4n (List.drop (if (((List.drop (if ((obj2_0_4.length : Nat) : Int) < wn36 then ((obj2_0_4.length : Nat) : Int) else wn36).toNat obj2_0_4).length : Nat) : Int) < 1 then (((List.drop (if ((obj2_0_4.length : Nat) : Int) < wn36 then ((obj2_0_4.length : Nat) : Int) else wn36).toNat obj2_0_4).length : Nat) : Int) else 1).toNat (List.drop (if ((obj2_0_4.length : Nat) : Int) < wn36 then ((obj2_0_4.length : Nat) : Int) else wn36).toNat obj2_0_4)) (obj3 ++ [AV.agg [iv 2, AV.lst 1 true []]])))
                                            (none))
                                          (br (lenOk (obj3.length + 1) 32 && lenOk (obj3.length + 1) 1)
                                            (optK (K f_slices_Concat_string_string [AV.lst 1 false [AV.lst 1 obj2_0_0n obj2_0_0, AV.lst 1 false [sv ws42]]]) fun wv53 =>
                                            Ab.asLst wv53 1 fun wb54 wr54 =>
                                            r (.s1 obj0_0_0n obj0_0_0 obj0_0_1 obj0_0_2 obj0_0_3 obj1_0_1 obj1_0_2 obj1_0_3 wb54 wr54 ({ data := #[] } : ByteArray) 1 wn43 obj2_0_4n (List.drop (if (((List.drop (if ((obj2_0_4.length : Nat) : Int) < wn36 then ((obj2_0_4.length : Nat) : Int) else wn36).toNat obj2_0_4).length : Nat) : Int) < 1 then (((List.drop (if ((obj2_0_4.length : Nat) : Int) < wn36 then ((obj2_0_4.length : Nat) : Int) else wn36).toNat obj2_0_4).length : Nat) : Int) else 1).toNat (List.drop (if ((obj2_0_4.length : Nat) : Int) < wn36 then ((obj2_0_4.length : Nat) : Int) else wn36).toNat obj2_0_4)) (obj3 ++ [AV.agg [iv 2, AV.lst 1 true []]])))
                                            (none)))))
                                    (none))
                                  (none))
                                (none))
                              (none))
                            (none))
                          (none))
                        (none))
                      (none))
                    (none))
                  (none))
                (none))
              (br (decide (((obj2_0_4.length : Nat) : Int) > w64 (400 - ((obj2_0_1.size : Nat) : Int))))
                (br (decide (0 ≤ if ((obj2_0_4.length : Nat) : Int) < w64 (400 - ((obj2_0_1.size : Nat) : Int)) then ((obj2_0_4.length : Nat) : Int) else w64 (400 - ((obj2_0_1.size : Nat) : Int))))
                  (br (decide ((if ((obj2_0_4.length : Nat) : Int) < w64 (400 - ((obj2_0_1.size : Nat) : Int)) then ((obj2_0_4.length : Nat) : Int) else w64 (400 - ((obj2_0_1.size : Nat) : Int))) ≤ ((obj2_0_4.length : Nat) : Int)))
                    (br (decide (0 ≤ if ((obj2_0_4.length : Nat) : Int) < w64 (400 - ((obj2_0_1.size : Nat) : Int)) then ((obj2_0_4.length : Nat) : Int) else w64 (400 - ((obj2_0_1.size : Nat) : Int))))
                      (br (decide ((if ((obj2_0_4.length : Nat) : Int) < w64 (400 - ((obj2_0_1.size : Nat) : Int)) then ((obj2_0_4.length : Nat) : Int) else w64 (400 - ((obj2_0_1.size : Nat) : Int))) ≤ ((obj2_0_4.length : Nat) : Int)))
                        (r (.s1 obj0_0_0n obj0_0_0 obj0_0_1 obj0_0_2 obj0_0_3 obj1_0_1 obj1_0_2 obj1_0_3 true [] ({ data := #[] } : ByteArray) 2 0 obj2_0_4n (List.drop (if ((obj2_0_4.length : Nat) : Int) < w64 (400 - ((obj2_0_1.size : Nat) : Int)) then ((obj2_0_4.length : Nat) : Int) else w64 (400 - ((obj2_0_1.size : Nat) : Int))).toNat obj2_0_4) obj3))
                        (none))
                      (none))
                    (none))
                  (none))
                (br (decide (0 ≤ if ((obj2_0_4.length : Nat) : Int) < ((obj2_0_4.length : Nat) : Int) then ((obj2_0_4.length : Nat) : Int) else ((obj2_0_4.length : Nat) : Int)))
                  (br (decide ((if ((obj2_0_4.length : Nat) : Int) < ((obj2_0_4.length : Nat) : Int) then ((obj2_0_4.length : Nat) : Int) else ((obj2_0_4.length : Nat) : Int)) ≤ ((obj2_0_4.length : Nat) : Int)))
                    (br (decide (0 ≤ if ((obj2_0_4.length : Nat) : Int) < ((obj2_0_4.length : Nat) : Int) then ((obj2_0_4.length : Nat) : Int) else ((obj2_0_4.length : Nat) : Int)))
                      (br (decide ((if ((obj2_0_4.length : Nat) : Int) < ((obj2_0_4.length : Nat) : Int) then ((obj2_0_4.length : Nat) : Int) else ((obj2_0_4.length : Nat) : Int)) ≤ ((obj2_0_4.length : Nat) : Int)))
                        (optK (rowsBytes (List.take (if ((obj2_0_4.length : Nat) : Int) < ((obj2_0_4.length : Nat) : Int) then ((obj2_0_4.length : Nat) : Int) else ((obj2_0_4.length : Nat) : Int)).toNat obj2_0_4)) fun wv55 =>
                        br ((obj2_0_1.size + ({ data := wv55.toArray } : ByteArray).size).ble maxStr)
                          (br (sameAV (sv obj2_0_1) (sv obj2_0_1))
                            (br (sameAV (sv obj2_0_1) (sv obj2_0_1))
                              (r (.s1 obj0_0_0n obj0_0_0 obj0_0_1 obj0_0_2 obj0_0_3 obj1_0_1 obj1_0_2 obj1_0_3 obj2_0_0n obj2_0_0 (catStr obj2_0_1 ({ data := wv55.toArray } : ByteArray)) obj2_0_2 obj2_0_3 obj2_0_4n (List.drop (if ((obj2_0_4.length : Nat) : Int) < ((obj2_0_4.length : Nat) : Int) then ((obj2_0_4.length : Nat) : Int) else ((obj2_0_4.length : Nat) : Int)).toNat obj2_0_4) obj3))
                              (none))
                            (none))
                          (none))
                        (none))
                      (none))
                    (none))
                  (none))))
            (none))
          (none))
        (br (obj2_0_2 == 1)
          (br (decide (0 ≤ if ((obj2_0_4.length : Nat) : Int) < obj2_0_3 then ((obj2_0_4.length : Nat) : Int) else obj2_0_3))
            (br (decide ((if ((obj2_0_4.length : Nat) : Int) < obj2_0_3 then ((obj2_0_4.length : Nat) : Int) else obj2_0_3) ≤ ((obj2_0_4.length : Nat) : Int)))
              (br (decide (0 ≤ if ((obj2_0_4.length : Nat) : Int) < obj2_0_3 then ((obj2_0_4.length : Nat) : Int) else obj2_0_3))
                (br (decide ((if ((obj2_0_4.length : Nat) : Int) < obj2_0_3 then ((obj2_0_4.length : Nat) : Int) else obj2_0_3) ≤ ((obj2_0_4.length : Nat) : Int)))
                  (optK (rowsBytes (List.take (if ((obj2_0_4.length : Nat) : Int) < obj2_0_3 then ((obj2_0_4.length : Nat) : Int) else obj2_0_3).toNat obj2_0_4)) fun wv56 =>
                  br ((obj2_0_1.size + ({ data := wv56.toArray } : ByteArray).size).ble maxStr)
                    (br (w64 (obj2_0_3 - (((List.take (if ((obj2_0_4.length : Nat) : Int) < obj2_0_3 then ((obj2_0_4.length : Nat) : Int) else obj2_0_3).toNat obj2_0_4).length : Nat) : Int)) == 0)
                      (optK (K f_slices_Concat_string_string [AV.lst 1 false [AV.lst 1 obj2_0_0n obj2_0_0, AV.lst 1 false [sv (catStr obj2_0_1 ({ data := wv56.toArray } : ByteArray))]]]) fun wv57 =>
                      Ab.asLst wv57 1 fun wb58 wr58 =>
                      r (.s1 obj0_0_0n obj0_0_0 obj0_0_1 obj0_0_2 obj0_0_3 obj1_0_1 obj1_0_2 obj1_0_3 wb58 wr58 ({ data := #[] } : ByteArray) 0 0 obj2_0_4n (List.drop (if ((obj2_0_4.length : Nat) : Int) < obj2_0_3 then ((obj2_0_4.length : Nat) : Int) else obj2_0_3).toNat obj2_0_4) obj3))
                      (r (.s1 obj0_0_0n obj0_0_0 obj0_0_1 obj0_0_2 obj0_0_3 obj1_0_1 obj1_0_2 obj1_0_3 obj2_0_0n obj2_0_0 (catStr obj2_0_1 ({ data := wv56.toArray } : ByteArray)) obj2_0_2 (w64 (obj2_0_3 - (((List.take (if ((obj2_0_4.length : Nat) : Int) < obj2_0_3 then ((obj2_0_4.length : Nat) : Int) else obj2_0_3).toNat obj2_0_4).length : Nat) : Int))) obj2_0_4n (List.drop (if ((obj2_0_4.length : Nat) : Int) < obj2_0_3 then ((obj2_0_4.length : Nat) : Int) else obj2_0_3).toNat obj2_0_4) obj3)))
                    (none))
                  (none))
                (none))
              (none))
            (none))
          (br (obj2_0_2 == 3)
            (br (decide (0 ≤ if ((obj2_0_4.length : Nat) : Int) < obj2_0_3 then ((obj2_0_4.length : Nat) : Int) else obj2_0_3))
              (br (decide ((if ((obj2_0_4.length : Nat) : Int) < obj2_0_3 then ((obj2_0_4.length : Nat) : Int) else obj2_0_3) ≤ ((obj2_0_4.length : Nat) : Int)))
                (br (decide (0 ≤ if ((obj2_0_4.length : Nat) : Int) < obj2_0_3 then ((obj2_0_4.length : Nat) : Int) else obj2_0_3))
                  (br (decide ((if ((obj2_0_4.length : Nat) : Int) < obj2_0_3 then ((obj2_0_4.length : Nat) : Int) else obj2_0_3) ≤ ((obj2_0_4.length : Nat) : Int)))
                    (br (sameAV (iv obj2_0_3) (iv obj2_0_3))
                      (br (sameAV (iv obj2_0_3) (iv obj2_0_3))
                        (br (w64 (obj2_0_3 - (((List.take (if ((obj2_0_4.length : Nat) : Int) < obj2_0_3 then ((obj2_0_4.length : Nat) : Int) else obj2_0_3).toNat obj2_0_4).length : Nat) : Int)) == 0)
                          (r (.s1 obj0_0_0n obj0_0_0 obj0_0_1 obj0_0_2 obj0_0_3 obj1_0_1 obj1_0_2 obj1_0_3 obj2_0_0n obj2_0_0 obj2_0_1 4 (w64 (obj2_0_3 - (((List.take (if ((obj2_0_4.length : Nat) : Int) < obj2_0_3 then ((obj2_0_4.length : Nat) : Int) else obj2_0_3).toNat obj2_0_4).length : Nat) : Int))) obj2_0_4n (List.drop (if ((obj2_0_4.length : Nat) : Int) < obj2_0_3 then ((obj2_0_4.length : Nat) : Int) else obj2_0_3).toNat obj2_0_4) obj3))
                          (r (.s1 obj0_0_0n obj0_0_0 obj0_0_1 obj0_0_2 obj0_0_3 obj1_0_1 obj1_0_2 obj1_0_3 obj2_0_0n obj2_0_0 obj2_0_1 obj2_0_2 (w64 (obj2_0_3 - (((List.take (if ((obj2_0_4.length : Nat) : Int) < obj2_0_3 then ((obj2_0_4.length : Nat) : Int) else obj2_0_3).toNat obj2_0_4).length : Nat) : Int))) obj2_0_4n (List.drop (if ((obj2_0_4.length : Nat) : Int) < obj2_0_3 then ((obj2_0_4.length : Nat) : Int) else obj2_0_3).toNat obj2_0_4) obj3)))
                        (none))
                      (none))
                    (none))
                  (none))
                (none))
              (none))
            (br (obj2_0_2 == 2)
              (optK (K f_bytes_Cut [AV.lst 1 obj2_0_4n obj2_0_4, AV.lst 1 false [uv 10]]) fun wv59 =>
              Ab.asTup wv59 3 fun wg60 =>
              Ab.asLst (wg60 0) 1 fun wb61 wr61 =>
              Ab.asLst (wg60 1) 1 fun wb62 wr62 =>
              Ab.asBool (wg60 2) fun wb63 =>
              br wb63
                (br (lenOk (obj3.length + 1) 32 && lenOk (obj3.length + 1) 1)
                  (r (.s1 obj0_0_0n obj0_0_0 obj0_0_1 obj0_0_2 obj0_0_3 obj1_0_1 obj1_0_2 obj1_0_3 true [] ({ data := #[] } : ByteArray) 0 0 wb62 wr62 (obj3 ++ [AV.agg [iv 3, AV.lst 1 true []]])))
                  (none))
                (r (.s1 obj0_0_0n obj0_0_0 obj0_0_1 obj0_0_2 obj0_0_3 obj1_0_1 obj1_0_2 obj1_0_3 obj2_0_0n obj2_0_0 obj2_0_1 obj2_0_2 obj2_0_3 wb62 wr62 obj3)))
              (br (obj2_0_2 == 4)
                (optK (K f_bytes_Cut [AV.lst 1 obj2_0_4n obj2_0_4, AV.lst 1 false [uv 10]]) fun wv64 =>
                Ab.asTup wv64 3 fun wg65 =>
                Ab.asLst (wg65 0) 1 fun wb66 wr66 =>
                Ab.asLst (wg65 1) 1 fun wb67 wr67 =>
                Ab.asBool (wg65 2) fun wb68 =>
                br wb68
                  (r (.s1 obj0_0_0n obj0_0_0 obj0_0_1 obj0_0_2 obj0_0_3 obj1_0_1 obj1_0_2 obj1_0_3 true [] ({ data := #[] } : ByteArray) 0 0 wb67 wr67 obj3))
                  (r (.s1 obj0_0_0n obj0_0_0 obj0_0_1 obj0_0_2 obj0_0_3 obj1_0_1 obj1_0_2 obj1_0_3 obj2_0_0n obj2_0_0 obj2_0_1 obj2_0_2 obj2_0_3 wb67 wr67 obj3)))
                (r (.s1 obj0_0_0n obj0_0_0 obj0_0_1 obj0_0_2 obj0_0_3 obj1_0_1 obj1_0_2 obj1_0_3 obj2_0_0n obj2_0_0 obj2_0_1 obj2_0_2 obj2_0_3 obj2_0_4n obj2_0_4 obj3)))))))
      (d (.x1 obj0_0_0n obj0_0_0 obj0_0_1 obj0_0_2 obj0_0_3 obj1_0_1 obj1_0_2 obj1_0_3 obj2_0_0n obj2_0_0 obj2_0_1 obj2_0_2 obj2_0_3 obj2_0_4n obj2_0_4 obj3))
theorem roundtoken_Feed_0 (K : PureK) {β : Type} (r : Env → Heap → Option β) (k : Ex → Env → Heap → Option β) (s : Stoken_Feed_0) : tellOne X K 0 9 0 [(3, 1, 0), (4, 1, 0), (5, 1, 0)] 3 cltoken_Feed_0 clotoken_Feed_0 r k (Etoken_Feed_0 s) (Htoken_Feed_0 s) = Rtoken_Feed_0 K (Ttoken_Feed_0 k) (fun s => r (Etoken_Feed_0 s) (Htoken_Feed_0 s)) s := by
  cases s <;> kernel_rfl
theorem Otoken_Feed_0.bind_k {β γ : Type} (o : Otoken_Feed_0) (c0 : Bool → (List AV) → ByteArray → Int → Int → ByteArray → Int → Int → Bool → (List AV) → ByteArray → Int → Int → Bool → (List AV) → Option β) (c1 : Bool → (List AV) → ByteArray → Int → Int → ByteArray → Int → Int → Bool → (List AV) → ByteArray → Int → Int → Bool → (List AV) → (List AV) → Option β) (φ : β → Option γ) : (Otoken_Feed_0.k o c0 c1).bind φ = Otoken_Feed_0.k o (fun obj0_0_0n obj0_0_0 obj0_0_1 obj0_0_2 obj0_0_3 obj1_0_1 obj1_0_2 obj1_0_3 obj2_0_0n obj2_0_0 obj2_0_1 obj2_0_2 obj2_0_3 obj2_0_4n obj2_0_4 => (c0 obj0_0_0n obj0_0_0 obj0_0_1 obj0_0_2 obj0_0_3 obj1_0_1 obj1_0_2 obj1_0_3 obj2_0_0n obj2_0_0 obj2_0_1 obj2_0_2 obj2_0_3 obj2_0_4n obj2_0_4).bind φ) (fun obj0_0_0n obj0_0_0 obj0_0_1 obj0_0_2 obj0_0_3 obj1_0_1 obj1_0_2 obj1_0_3 obj2_0_0n obj2_0_0 obj2_0_1 obj2_0_2 obj2_0_3 obj2_0_4n obj2_0_4 obj3 => (c1 obj0_0_0n obj0_0_0 obj0_0_1 obj0_0_2 obj0_0_3 obj1_0_1 obj1_0_2 obj1_0_3 obj2_0_0n obj2_0_0 obj2_0_1 obj2_0_2 obj2_0_3 obj2_0_4n obj2_0_4 obj3).bind φ) := by cases o <;> rfl
theorem nattoken_Feed_0 (K : PureK) {β γ : Type} (φ : β → Option γ) (d : Otoken_Feed_0 → Option β) (r : Stoken_Feed_0 → Option β) (s : Stoken_Feed_0) : Rtoken_Feed_0 K (fun o => (d o).bind φ) (fun s => (r s).bind φ) s = (Rtoken_Feed_0 K d r s).bind φ := by
  cases s <;> simp only [Rtoken_Feed_0, bind_optK, bind_br, bind_asInt, bind_asBool, bind_asStr, bind_asLst, bind_asAgg, bind_asTup, bind_asBig, bind_asErr, bind_none]
theorem outtoken_Feed_0 (o : Otoken_Feed_0) : ∃ x e' h', ∀ {β : Type} (k : Ex → Env → Heap → Option β), Ttoken_Feed_0 k o = k x e' h' := by cases o <;> exact ⟨_, _, _, fun _ => rfl⟩
theorem oktoken_Feed_0 {K : PureK} (hX : Sound X) (hK : KOk X K) {ltoken_Feed_0 : Stoken_Feed_0 → Option Otoken_Feed_0} (hl : ∀ s o, ltoken_Feed_0 s = some o → ∃ m, fuelRec (Rtoken_Feed_0 K some) m s = some o) (β : Type) (e : Env) (h : Heap) (k : Ex → Env → Heap → Option β) (r : β) (hr : (Ftoken_Feed_0 ltoken_Feed_0).run e h k = some r) : ∃ x e' h', k x e' h' = some r ∧ CodeAt X (.loop (loopBody (X).P 9 0)) e h x e' h' := by
  obtain ⟨fn, c, hin⟩ := loopIn_of (X := X) (f := 9) (i := 0) (key := 4) (by kernel_rfl)
  simp only [Ftoken_Feed_0] at hr
  split at hr
  · rename_i hlen
    have hlen := Nat.eq_of_beq_eq_true hlen
    split at hr
    · rename_i q4 q6
      obtain ⟨o, ho, hr⟩ := optK_some hr
      refine tell_ok hX (KOk.congr (X := X) (Y := X) rfl rfl hK) hin (E := Etoken_Feed_0) (H := Htoken_Feed_0) (R := fun d r => Rtoken_Feed_0 K d r) (T := Ttoken_Feed_0) (ts := [(3, 1, 0), (4, 1, 0), (5, 1, 0)]) (len := 3) (cl := cltoken_Feed_0) (clo := clotoken_Feed_0) (roundtoken_Feed_0 K) (nattoken_Feed_0 K) outtoken_Feed_0 (hl _ _ ho) (cl0 := cltoken_Feed_0) (ts0 := []) ?_ rfl (by kernel_rfl) (by kernel_rfl) hr
      rw [clear_lit e 31 hlen, show clearEnv cltoken_Feed_0 ((List.range 31).map fun i => e.getD i .dead) = [.dead, .dead, .dead, .dead, e.getD 4 .dead, .dead, e.getD 6 .dead, .dead, .dead, .dead, .dead, .dead, .dead, .dead, .dead, .dead, .dead, .dead, .dead, .dead, .dead, .dead, .dead, .dead, .dead, .dead, .dead, .dead, .dead, .dead, .dead] from by kernel_rfl]; rw [q4, q6]
      kernel_rfl
    · cases hr
  · cases hr
noncomputable def Rtoken_Feed (K : PureK) (ltoken_Feed_0 : Stoken_Feed_0 → Option Otoken_Feed_0) (r0_0n : Bool) (r0_0 : List AV) (r0_1 : ByteArray) (r0_2 : Int) (r0_3 : Int) (b1n : Bool) (b1 : List AV) : Option AV :=
  optK (K f_token_Right [AV.agg [AV.lst 1 r0_0n r0_0, sv r0_1, iv r0_2, iv r0_3]]) fun wv3 =>
    Ab.asBool wv3 fun wb4 =>
    br (!wb4)
      (some (AV.tup [AV.agg [AV.lst 1 r0_0n r0_0, sv r0_1, iv r0_2, iv r0_3], AV.lst 2 true []]))
      (optK (ltoken_Feed_0 (Stoken_Feed_0.s0 r0_0n r0_0 r0_1 r0_2 r0_3 ({ data := #[] } : ByteArray) 0 0 r0_0n r0_0 r0_1 r0_2 r0_3 b1n b1)) fun wo5 => Otoken_Feed_0.k wo5
        (fun (obj0_0_0n_6 : Bool) (obj0_0_0_6 : List AV) (obj0_0_1_6 : ByteArray) (obj0_0_2_6 : Int) (obj0_0_3_6 : Int) (obj1_0_1_6 : ByteArray) (obj1_0_2_6 : Int) (obj1_0_3_6 : Int) (obj2_0_0n_6 : Bool) (obj2_0_0_6 : List AV) (obj2_0_1_6 : ByteArray) (obj2_0_2_6 : Int) (obj2_0_3_6 : Int) (obj2_0_4n_6 : Bool) (obj2_0_4_6 : List AV) => some (AV.tup [AV.agg [AV.lst 1 obj2_0_0n_6 obj2_0_0_6, sv obj2_0_1_6, iv obj2_0_2_6, iv obj2_0_3_6], AV.lst 2 true []]))
        (fun (obj0_0_0n_7 : Bool) (obj0_0_0_7 : List AV) (obj0_0_1_7 : ByteArray) (obj0_0_2_7 : Int) (obj0_0_3_7 : Int) (obj1_0_1_7 : ByteArray) (obj1_0_2_7 : Int) (obj1_0_3_7 : Int) (obj2_0_0n_7 : Bool) (obj2_0_0_7 : List AV) (obj2_0_1_7 : ByteArray) (obj2_0_2_7 : Int) (obj2_0_3_7 : Int) (obj2_0_4n_7 : Bool) (obj2_0_4_7 : List AV) (obj3_7 : List AV) => some (AV.tup [AV.agg [AV.lst 1 obj2_0_0n_7 obj2_0_0_7, sv obj2_0_1_7, iv obj2_0_2_7, iv obj2_0_3_7], AV.lst 2 false obj3_7])))
theorem toptoken_Feed (K : PureK) (ltoken_Feed_0 : Stoken_Feed_0 → Option Otoken_Feed_0) (r0_0n : Bool) (r0_0 : List AV) (r0_1 : ByteArray) (r0_2 : Int) (r0_3 : Int) (b1n : Bool) (b1 : List AV) : topK (addLp X 9 4 (Ftoken_Feed_0 ltoken_Feed_0)) K 0 f_token_Feed [(.agg [(.lst 1 r0_0n r0_0), (.v (.string r0_1)), (.v (.int .i64 r0_2)), (.v (.int .i64 r0_3))]), (.lst 1 b1n b1)] = Rtoken_Feed K ltoken_Feed_0 r0_0n r0_0 r0_1 r0_2 r0_3 b1n b1 := by kernel_rfl
theorem pctoken_Feed {K : PureK} (hK : KOk X K) {ltoken_Feed_0 : Stoken_Feed_0 → Option Otoken_Feed_0} (htoken_Feed_0 : ∀ s o, ltoken_Feed_0 s = some o → ∃ m, fuelRec (Rtoken_Feed_0 K some) m s = some o) {r0_0n : Bool} {r0_0 : List AV} {r0_1 : ByteArray} {r0_2 : Int} {r0_3 : Int} {b1n : Bool} {b1 : List AV} {v : AV} (h : Rtoken_Feed K ltoken_Feed_0 r0_0n r0_0 r0_1 r0_2 r0_3 b1n b1 = some v) : PureCall X f_token_Feed [(.agg [(.lst 1 r0_0n r0_0), (.v (.string r0_1)), (.v (.int .i64 r0_2)), (.v (.int .i64 r0_3))]), (.lst 1 b1n b1)] v := by
  have hSo0 := soundX
  obtain ⟨_, _, hin0⟩ := loopIn_of (X := X) (f := 9) (i := 0) (key := 4) (by kernel_rfl)
  have hSo1 := sound_add hSo0 hin0 (oktoken_Feed_0 hSo0 hK htoken_Feed_0)
  exact tell_top (X := X) (Y := (addLp X 9 4 (Ftoken_Feed_0 ltoken_Feed_0))) rfl rfl hSo1 hK ((toptoken_Feed K ltoken_Feed_0 r0_0n r0_0 r0_1 r0_2 r0_3 b1n b1).trans h)

/-! 14: escheat/escheatref23.Feed -/
inductive Sref23_Feed_0 where
  | s0 (b1n : Bool) (b1 : List AV) (i7 : Int) (obj0_0_0n : Bool) (obj0_0_0 : List AV) (obj0_0_1 : ByteArray) (obj0_0_2 : Int) (obj0_0_3 : Int) (obj1_0_1 : ByteArray) (obj1_0_2 : Int) (obj1_0_3 : Int)
  | s1 (b1n : Bool) (b1 : List AV) (i7 : Int) (obj0_0_0n : Bool) (obj0_0_0 : List AV) (obj0_0_1 : ByteArray) (obj0_0_2 : Int) (obj0_0_3 : Int) (obj1_0_1 : ByteArray) (obj1_0_2 : Int) (obj1_0_3 : Int) (obj2_0_0n : Bool) (obj2_0_0 : List AV) (obj2_0_1 : ByteArray) (obj2_0_2 : Int) (obj2_0_3 : Int) (obj3 : List AV)

inductive Oref23_Feed_0 where
  | x0 (obj0_0_0n : Bool) (obj0_0_0 : List AV) (obj0_0_1 : ByteArray) (obj0_0_2 : Int) (obj0_0_3 : Int) (obj1_0_1 : ByteArray) (obj1_0_2 : Int) (obj1_0_3 : Int)
  | x1 (obj0_0_0n : Bool) (obj0_0_0 : List AV) (obj0_0_1 : ByteArray) (obj0_0_2 : Int) (obj0_0_3 : Int) (obj1_0_1 : ByteArray) (obj1_0_2 : Int) (obj1_0_3 : Int) (obj2_0_0n : Bool) (obj2_0_0 : List AV) (obj2_0_1 : ByteArray) (obj2_0_2 : Int) (obj2_0_3 : Int) (obj3 : List AV)

def Oref23_Feed_0.k {β : Type} (o : Oref23_Feed_0) (c0 : Bool → (List AV) → ByteArray → Int → Int → ByteArray → Int → Int → Option β) (c1 : Bool → (List AV) → ByteArray → Int → Int → ByteArray → Int → Int → Bool → (List AV) → ByteArray → Int → Int → (List AV) → Option β) : Option β := match o with
  | .x0 obj0_0_0n obj0_0_0 obj0_0_1 obj0_0_2 obj0_0_3 obj1_0_1 obj1_0_2 obj1_0_3 => c0 obj0_0_0n obj0_0_0 obj0_0_1 obj0_0_2 obj0_0_3 obj1_0_1 obj1_0_2 obj1_0_3
  | .x1 obj0_0_0n obj0_0_0 obj0_0_1 obj0_0_2 obj0_0_3 obj1_0_1 obj1_0_2 obj1_0_3 obj2_0_0n obj2_0_0 obj2_0_1 obj2_0_2 obj2_0_3 obj3 => c1 obj0_0_0n obj0_0_0 obj0_0_1 obj0_0_2 obj0_0_3 obj1_0_1 obj1_0_2 obj1_0_3 obj2_0_0n obj2_0_0 obj2_0_1 obj2_0_2 obj2_0_3 obj3

def Eref23_Feed_0 : Sref23_Feed_0 → Env
  | .s0 b1n b1 i7 obj0_0_0n obj0_0_0 obj0_0_1 obj0_0_2 obj0_0_3 obj1_0_1 obj1_0_2 obj1_0_3 => [.dead, (.lst 1 b1n b1), (.ptr 0 0 0 0), .dead, (.ptr 1 0 0 0), .dead, (.lst 2 true []), (.v (.int .i64 i7)), .dead, .dead, .dead, .dead, .dead, .dead, .dead, .dead, .dead, .dead, .dead, .dead, .dead, .dead, .dead, .dead, .dead, .dead, .dead, .dead, .dead, .dead, .dead, .dead, .dead, .dead, .dead]
  | .s1 b1n b1 i7 obj0_0_0n obj0_0_0 obj0_0_1 obj0_0_2 obj0_0_3 obj1_0_1 obj1_0_2 obj1_0_3 obj2_0_0n obj2_0_0 obj2_0_1 obj2_0_2 obj2_0_3 obj3 => [.dead, (.lst 1 b1n b1), (.ptr 0 0 0 0), .dead, (.ptr 1 0 0 0), .dead, (.own 3 1 0 none), (.v (.int .i64 i7)), .dead, .dead, .dead, .dead, .dead, .dead, .dead, .dead, .dead, .dead, .dead, .dead, .dead, .dead, .dead, .dead, .dead, .dead, .dead, .dead, .dead, .dead, .dead, .dead, .dead, .dead, .dead]

def Href23_Feed_0 : Sref23_Feed_0 → Heap
  | .s0 b1n b1 i7 obj0_0_0n obj0_0_0 obj0_0_1 obj0_0_2 obj0_0_3 obj1_0_1 obj1_0_2 obj1_0_3 => [⟨[(.agg [(.lst 1 obj0_0_0n obj0_0_0), (.v (.string obj0_0_1)), (.v (.int .i64 obj0_0_2)), (.v (.int .i64 obj0_0_3))])], 0, 0, true, true, 27, 4, none⟩, ⟨[(.agg [(.lst 1 true []), (.v (.string obj1_0_1)), (.v (.int .i64 obj1_0_2)), (.v (.int .i64 obj1_0_3))])], 0, 0, true, true, 27, 4, none⟩]
  | .s1 b1n b1 i7 obj0_0_0n obj0_0_0 obj0_0_1 obj0_0_2 obj0_0_3 obj1_0_1 obj1_0_2 obj1_0_3 obj2_0_0n obj2_0_0 obj2_0_1 obj2_0_2 obj2_0_3 obj3 => [⟨[(.agg [(.lst 1 obj0_0_0n obj0_0_0), (.v (.string obj0_0_1)), (.v (.int .i64 obj0_0_2)), (.v (.int .i64 obj0_0_3))])], 0, 0, true, true, 27, 4, none⟩, ⟨[(.agg [(.lst 1 true []), (.v (.string obj1_0_1)), (.v (.int .i64 obj1_0_2)), (.v (.int .i64 obj1_0_3))])], 0, 0, true, true, 27, 4, none⟩, ⟨[(.agg [(.lst 1 obj2_0_0n obj2_0_0), (.v (.string obj2_0_1)), (.v (.int .i64 obj2_0_2)), (.v (.int .i64 obj2_0_3))])], 1, 0, true, true, 27, 4, none⟩, ⟨obj3, 1, 0, true, false, 38, 2, none⟩]

def Tref23_Feed_0 {β : Type} (k : Ex → Env → Heap → Option β) (o : Oref23_Feed_0) : Option β := Oref23_Feed_0.k o (fun obj0_0_0n obj0_0_0 obj0_0_1 obj0_0_2 obj0_0_3 obj1_0_1 obj1_0_2 obj1_0_3 => k (.exit 0) [.dead, .dead, (.ptr 0 0 0 0), .dead, (.ptr 1 0 0 0), .dead, (.lst 2 true []), .dead, .dead, .dead, .dead, .dead, .dead, .dead, .dead, .dead, .dead, .dead, .dead, .dead, .dead, .dead, .dead, .dead, .dead, .dead, .dead, .dead, .dead, .dead, .dead, .dead, .dead, .dead, .dead] [⟨[(.agg [(.lst 1 obj0_0_0n obj0_0_0), (.v (.string obj0_0_1)), (.v (.int .i64 obj0_0_2)), (.v (.int .i64 obj0_0_3))])], 0, 0, true, true, 27, 4, none⟩, ⟨[(.agg [(.lst 1 true []), (.v (.string obj1_0_1)), (.v (.int .i64 obj1_0_2)), (.v (.int .i64 obj1_0_3))])], 0, 0, true, true, 27, 4, none⟩]) (fun obj0_0_0n obj0_0_0 obj0_0_1 obj0_0_2 obj0_0_3 obj1_0_1 obj1_0_2 obj1_0_3 obj2_0_0n obj2_0_0 obj2_0_1 obj2_0_2 obj2_0_3 obj3 => k (.exit 0) [.dead, .dead, (.ptr 0 0 0 0), .dead, (.ptr 1 0 0 0), .dead, (.own 3 1 0 none), .dead, .dead, .dead, .dead, .dead, .dead, .dead, .dead, .dead, .dead, .dead, .dead, .dead, .dead, .dead, .dead, .dead, .dead, .dead, .dead, .dead, .dead, .dead, .dead, .dead, .dead, .dead, .dead] [⟨[(.agg [(.lst 1 obj0_0_0n obj0_0_0), (.v (.string obj0_0_1)), (.v (.int .i64 obj0_0_2)), (.v (.int .i64 obj0_0_3))])], 0, 0, true, true, 27, 4, none⟩, ⟨[(.agg [(.lst 1 true []), (.v (.string obj1_0_1)), (.v (.int .i64 obj1_0_2)), (.v (.int .i64 obj1_0_3))])], 0, 0, true, true, 27, 4, none⟩, ⟨[(.agg [(.lst 1 obj2_0_0n obj2_0_0), (.v (.string obj2_0_1)), (.v (.int .i64 obj2_0_2)), (.v (.int .i64 obj2_0_3))])], 1, 0, true, true, 27, 4, none⟩, ⟨obj3, 1, 0, true, false, 38, 2, none⟩])

def Fref23_Feed_0 (lref23_Feed_0 : Sref23_Feed_0 → Option Oref23_Feed_0) : LoopF := ⟨fun e h k => match Nat.beq e.length 35 with
  | true => (match e.getD 1 .dead, e.getD 2 .dead, e.getD 4 .dead, e.getD 6 .dead, e.getD 7 .dead, h with
    | (.lst 1 b1n b1), (.ptr 0 0 0 0), (.ptr 1 0 0 0), (.lst 2 true []), (.v (.int .i64 i7)), [⟨[(.agg [(.lst 1 obj0_0_0n obj0_0_0), (.v (.string obj0_0_1)), (.v (.int .i64 obj0_0_2)), (.v (.int .i64 obj0_0_3))])], 0, 0, true, true, 27, 4, none⟩, ⟨[(.agg [(.lst 1 true []), (.v (.string obj1_0_1)), (.v (.int .i64 obj1_0_2)), (.v (.int .i64 obj1_0_3))])], 0, 0, true, true, 27, 4, none⟩] => optK (lref23_Feed_0 (.s0 b1n b1 i7 obj0_0_0n obj0_0_0 obj0_0_1 obj0_0_2 obj0_0_3 obj1_0_1 obj1_0_2 obj1_0_3)) (Tref23_Feed_0 k)
    | _, _, _, _, _, _ => none)
  | false => none⟩

def clref23_Feed_0 : List Tmp := [0, 3, 5, 8, 9, 10, 11, 12, 13, 14, 15, 16, 17, 18, 19, 20, 21, 22, 23, 24, 25, 26, 27, 28, 29, 30, 31, 32, 33, 34]
def cloref23_Feed_0 : List Tmp := [0, 1, 3, 5, 7, 8, 9, 10, 11, 12, 13, 14, 15, 16, 17, 18, 19, 20, 21, 22, 23, 24, 25, 26, 27, 28, 29, 30, 31, 32, 33, 34]

noncomputable def Rref23_Feed_0 {β : Type} (K : PureK) (d : Oref23_Feed_0 → Option β) (r : Sref23_Feed_0 → Option β) : Sref23_Feed_0 → Option β
  | .s0 b1n b1 i7 obj0_0_0n obj0_0_0 obj0_0_1 obj0_0_2 obj0_0_3 obj1_0_1 obj1_0_2 obj1_0_3 =>
    br (decide (i7 < ((b1.length : Nat) : Int)))
      (br (decide (0 ≤ i7))
        (br (decide (i7 < ((b1.length : Nat) : Int)))
          (optK b1[i7.toNat]? fun wv1 =>
          Ab.asInt wv1 .u8 fun wn2 =>
          optK (K f_ref23_one [AV.agg [AV.lst 1 obj0_0_0n obj0_0_0, sv obj0_0_1, iv obj0_0_2, iv obj0_0_3], uv wn2]) fun wv3 =>
          Ab.asTup wv3 2 fun wg4 =>
          Ab.asAgg (wg4 0) 4 fun wg5 =>
          Ab.asLst (wg5 0) 1 fun wb6 wr6 =>
          Ab.asStr (wg5 1) fun ws7 =>
          Ab.asInt (wg5 2) .i64 fun wn8 =>
          Ab.asInt (wg5 3) .i64 fun wn9 =>
          Ab.asLst (wg4 1) 2 fun wb10 wr10 =>
          br wr10.isEmpty
            (r (.s0 b1n b1 (w64 (i7 + 1)) wb6 wr6 ws7 wn8 wn9 obj1_0_1 obj1_0_2 obj1_0_3))
            (br (lenOk wr10.length 32 && lenOk wr10.length 1)
              (r (.s1 b1n b1 (w64 (i7 + 1)) wb6 wr6 ws7 wn8 wn9 obj1_0_1 obj1_0_2 obj1_0_3 wb6 wr6 ws7 wn8 wn9 wr10))
              (none)))
          (none))
        (none))
      (d (.x0 obj0_0_0n obj0_0_0 obj0_0_1 obj0_0_2 obj0_0_3 obj1_0_1 obj1_0_2 obj1_0_3))
  | .s1 b1n b1 i7 obj0_0_0n obj0_0_0 obj0_0_1 obj0_0_2 obj0_0_3 obj1_0_1 obj1_0_2 obj1_0_3 obj2_0_0n obj2_0_0 obj2_0_1 obj2_0_2 obj2_0_3 obj3 =>
    br (decide (i7 < ((b1.length : Nat) : Int)))
      (br (decide (0 ≤ i7))
        (br (decide (i7 < ((b1.length : Nat) : Int)))
          (optK b1[i7.toNat]? fun wv11 =>
          Ab.asInt wv11 .u8 fun wn12 =>
          optK (K f_ref23_one [AV.agg [AV.lst 1 obj0_0_0n obj0_0_0, sv obj0_0_1, iv obj0_0_2, iv obj0_0_3], uv wn12]) fun wv13 =>
          Ab.asTup wv13 2 fun wg14 =>
          Ab.asAgg (wg14 0) 4 fun wg15 =>
          Ab.asLst (wg15 0) 1 fun wb16 wr16 =>
          Ab.asStr (wg15 1) fun ws17 =>
          Ab.asInt (wg15 2) .i64 fun wn18 =>
          Ab.asInt (wg15 3) .i64 fun wn19 =>
          Ab.asLst (wg14 1) 2 fun wb20 wr20 =>
          br (lenOk (obj3.length + wr20.length) 32 && lenOk (obj3.length + wr20.length) 1)
            (r (.s1 b1n b1 (w64 (i7 + 1)) wb16 wr16 ws17 wn18 wn19 obj1_0_1 obj1_0_2 obj1_0_3 obj2_0_0n obj2_0_0 obj2_0_1 obj2_0_2 obj2_0_3 (obj3 ++ wr20)))
            (none))
          (none))
        (none))
      (d (.x1 obj0_0_0n obj0_0_0 obj0_0_1 obj0_0_2 obj0_0_3 obj1_0_1 obj1_0_2 obj1_0_3 obj2_0_0n obj2_0_0 obj2_0_1 obj2_0_2 obj2_0_3 obj3))
theorem roundref23_Feed_0 (K : PureK) {β : Type} (r : Env → Heap → Option β) (k : Ex → Env → Heap → Option β) (s : Sref23_Feed_0) : tellOne X K 0 14 0 [(2, 1, 0), (3, 1, 0), (4, 1, 0)] 2 clref23_Feed_0 cloref23_Feed_0 r k (Eref23_Feed_0 s) (Href23_Feed_0 s) = Rref23_Feed_0 K (Tref23_Feed_0 k) (fun s => r (Eref23_Feed_0 s) (Href23_Feed_0 s)) s := by
  cases s <;> kernel_rfl
theorem Oref23_Feed_0.bind_k {β γ : Type} (o : Oref23_Feed_0) (c0 : Bool → (List AV) → ByteArray → Int → Int → ByteArray → Int → Int → Option β) (c1 : Bool → (List AV) → ByteArray → Int → Int → ByteArray → Int → Int → Bool → (List AV) → ByteArray → Int → Int → (List AV) → Option β) (φ : β → Option γ) : (Oref23_Feed_0.k o c0 c1).bind φ = Oref23_Feed_0.k o (fun obj0_0_0n obj0_0_0 obj0_0_1 obj0_0_2 obj0_0_3 obj1_0_1 obj1_0_2 obj1_0_3 => (c0 obj0_0_0n obj0_0_0 obj0_0_1 obj0_0_2 obj0_0_3 obj1_0_1 obj1_0_2 obj1_0_3).bind φ) (fun obj0_0_0n obj0_0_0 obj0_0_1 obj0_0_2 obj0_0_3 obj1_0_1 obj1_0_2 obj1_0_3 obj2_0_0n obj2_0_0 obj2_0_1 obj2_0_2 obj2_0_3 obj3 => (c1 obj0_0_0n obj0_0_0 obj0_0_1 obj0_0_2 obj0_0_3 obj1_0_1 obj1_0_2 obj1_0_3 obj2_0_0n obj2_0_0 obj2_0_1 obj2_0_2 obj2_0_3 obj3).bind φ) := by cases o <;> rfl
theorem natref23_Feed_0 (K : PureK) {β γ : Type} (φ : β → Option γ) (d : Oref23_Feed_0 → Option β) (r : Sref23_Feed_0 → Option β) (s : Sref23_Feed_0) : Rref23_Feed_0 K (fun o => (d o).bind φ) (fun s => (r s).bind φ) s = (Rref23_Feed_0 K d r s).bind φ := by
  cases s <;> simp only [Rref23_Feed_0, bind_optK, bind_br, bind_asInt, bind_asBool, bind_asStr, bind_asLst, bind_asAgg, bind_asTup, bind_asBig, bind_asErr, bind_none]
theorem outref23_Feed_0 (o : Oref23_Feed_0) : ∃ x e' h', ∀ {β : Type} (k : Ex → Env → Heap → Option β), Tref23_Feed_0 k o = k x e' h' := by cases o <;> exact ⟨_, _, _, fun _ => rfl⟩
theorem okref23_Feed_0 {K : PureK} (hX : Sound X) (hK : KOk X K) {lref23_Feed_0 : Sref23_Feed_0 → Option Oref23_Feed_0} (hl : ∀ s o, lref23_Feed_0 s = some o → ∃ m, fuelRec (Rref23_Feed_0 K some) m s = some o) (β : Type) (e : Env) (h : Heap) (k : Ex → Env → Heap → Option β) (r : β) (hr : (Fref23_Feed_0 lref23_Feed_0).run e h k = some r) : ∃ x e' h', k x e' h' = some r ∧ CodeAt X (.loop (loopBody (X).P 14 0)) e h x e' h' := by
  obtain ⟨fn, c, hin⟩ := loopIn_of (X := X) (f := 14) (i := 0) (key := 5) (by kernel_rfl)
  simp only [Fref23_Feed_0] at hr
  split at hr
  · rename_i hlen
    have hlen := Nat.eq_of_beq_eq_true hlen
    split at hr
    · rename_i q1 q2 q4 q6 q7
      obtain ⟨o, ho, hr⟩ := optK_some hr
      refine tell_ok hX (KOk.congr (X := X) (Y := X) rfl rfl hK) hin (E := Eref23_Feed_0) (H := Href23_Feed_0) (R := fun d r => Rref23_Feed_0 K d r) (T := Tref23_Feed_0) (ts := [(2, 1, 0), (3, 1, 0), (4, 1, 0)]) (len := 2) (cl := clref23_Feed_0) (clo := cloref23_Feed_0) (roundref23_Feed_0 K) (natref23_Feed_0 K) outref23_Feed_0 (hl _ _ ho) (cl0 := clref23_Feed_0) (ts0 := []) ?_ rfl (by kernel_rfl) (by kernel_rfl) hr
      rw [clear_lit e 35 hlen, show clearEnv clref23_Feed_0 ((List.range 35).map fun i => e.getD i .dead) = [.dead, e.getD 1 .dead, e.getD 2 .dead, .dead, e.getD 4 .dead, .dead, e.getD 6 .dead, e.getD 7 .dead, .dead, .dead, .dead, .dead, .dead, .dead, .dead, .dead, .dead, .dead, .dead, .dead, .dead, .dead, .dead, .dead, .dead, .dead, .dead, .dead, .dead, .dead, .dead, .dead, .dead, .dead, .dead] from by kernel_rfl]; rw [q1, q2, q4, q6, q7]
      kernel_rfl
    · cases hr
  · cases hr
noncomputable def Rref23_Feed (K : PureK) (lref23_Feed_0 : Sref23_Feed_0 → Option Oref23_Feed_0) (r0_0n : Bool) (r0_0 : List AV) (r0_1 : ByteArray) (r0_2 : Int) (r0_3 : Int) (b1n : Bool) (b1 : List AV) : Option AV :=
  optK (K f_ref23_Right [AV.agg [AV.lst 1 r0_0n r0_0, sv r0_1, iv r0_2, iv r0_3]]) fun wv3 =>
    Ab.asBool wv3 fun wb4 =>
    br (!wb4)
      (some (AV.tup [AV.agg [AV.lst 1 r0_0n r0_0, sv r0_1, iv r0_2, iv r0_3], AV.lst 2 true []]))
      (optK (lref23_Feed_0 (Sref23_Feed_0.s0 b1n b1 0 r0_0n r0_0 r0_1 r0_2 r0_3 ({ data := #[] } : ByteArray) 0 0)) fun wo5 => Oref23_Feed_0.k wo5
        (fun (obj0_0_0n_6 : Bool) (obj0_0_0_6 : List AV) (obj0_0_1_6 : ByteArray) (obj0_0_2_6 : Int) (obj0_0_3_6 : Int) (obj1_0_1_6 : ByteArray) (obj1_0_2_6 : Int) (obj1_0_3_6 : Int) => some (AV.tup [AV.agg [AV.lst 1 obj0_0_0n_6 obj0_0_0_6, sv obj0_0_1_6, iv obj0_0_2_6, iv obj0_0_3_6], AV.lst 2 true []]))
        (fun (obj0_0_0n_7 : Bool) (obj0_0_0_7 : List AV) (obj0_0_1_7 : ByteArray) (obj0_0_2_7 : Int) (obj0_0_3_7 : Int) (obj1_0_1_7 : ByteArray) (obj1_0_2_7 : Int) (obj1_0_3_7 : Int) (obj2_0_0n_7 : Bool) (obj2_0_0_7 : List AV) (obj2_0_1_7 : ByteArray) (obj2_0_2_7 : Int) (obj2_0_3_7 : Int) (obj3_7 : List AV) => some (AV.tup [AV.agg [AV.lst 1 obj0_0_0n_7 obj0_0_0_7, sv obj0_0_1_7, iv obj0_0_2_7, iv obj0_0_3_7], AV.lst 2 false obj3_7])))
theorem topref23_Feed (K : PureK) (lref23_Feed_0 : Sref23_Feed_0 → Option Oref23_Feed_0) (r0_0n : Bool) (r0_0 : List AV) (r0_1 : ByteArray) (r0_2 : Int) (r0_3 : Int) (b1n : Bool) (b1 : List AV) : topK (addLp X 14 5 (Fref23_Feed_0 lref23_Feed_0)) K 0 f_ref23_Feed [(.agg [(.lst 1 r0_0n r0_0), (.v (.string r0_1)), (.v (.int .i64 r0_2)), (.v (.int .i64 r0_3))]), (.lst 1 b1n b1)] = Rref23_Feed K lref23_Feed_0 r0_0n r0_0 r0_1 r0_2 r0_3 b1n b1 := by kernel_rfl
theorem pcref23_Feed {K : PureK} (hK : KOk X K) {lref23_Feed_0 : Sref23_Feed_0 → Option Oref23_Feed_0} (href23_Feed_0 : ∀ s o, lref23_Feed_0 s = some o → ∃ m, fuelRec (Rref23_Feed_0 K some) m s = some o) {r0_0n : Bool} {r0_0 : List AV} {r0_1 : ByteArray} {r0_2 : Int} {r0_3 : Int} {b1n : Bool} {b1 : List AV} {v : AV} (h : Rref23_Feed K lref23_Feed_0 r0_0n r0_0 r0_1 r0_2 r0_3 b1n b1 = some v) : PureCall X f_ref23_Feed [(.agg [(.lst 1 r0_0n r0_0), (.v (.string r0_1)), (.v (.int .i64 r0_2)), (.v (.int .i64 r0_3))]), (.lst 1 b1n b1)] v := by
  have hSo0 := soundX
  obtain ⟨_, _, hin0⟩ := loopIn_of (X := X) (f := 14) (i := 0) (key := 5) (by kernel_rfl)
  have hSo1 := sound_add hSo0 hin0 (okref23_Feed_0 hSo0 hK href23_Feed_0)
  exact tell_top (X := X) (Y := (addLp X 14 5 (Fref23_Feed_0 lref23_Feed_0))) rfl rfl hSo1 hK ((topref23_Feed K lref23_Feed_0 r0_0n r0_0 r0_1 r0_2 r0_3 b1n b1).trans h)

/-! 10: escheat/escheatref23.Same -/
noncomputable def Rref23_Same (K : PureK) (a0_0n : Bool) (a0_0 : List AV) (a0_1 : ByteArray) (a0_2 : Int) (a0_3 : Int) (b1_0n : Bool) (b1_0 : List AV) (b1_1 : ByteArray) (b1_2 : Int) (b1_3 : Int) : Option AV :=
  optK (br (strEq a0_1 b1_1)
        (br (a0_2 == b1_2)
          (br (a0_3 == b1_3)
            (optK (K f_ref10_Texts [AV.lst 1 a0_0n a0_0, AV.lst 1 b1_0n b1_0]) fun wv2 =>
            Ab.asBool wv2 fun wb3 =>
            some (bv wb3))
            (some (bv false)))
          (some (bv false)))
        (some (bv false))) fun wv1 =>
    Ab.asBool wv1 fun wb4 =>
    some (bv wb4)
theorem topref23_Same (K : PureK) (a0_0n : Bool) (a0_0 : List AV) (a0_1 : ByteArray) (a0_2 : Int) (a0_3 : Int) (b1_0n : Bool) (b1_0 : List AV) (b1_1 : ByteArray) (b1_2 : Int) (b1_3 : Int) : topK X K 0 f_ref23_Same [(.agg [(.lst 1 a0_0n a0_0), (.v (.string a0_1)), (.v (.int .i64 a0_2)), (.v (.int .i64 a0_3))]), (.agg [(.lst 1 b1_0n b1_0), (.v (.string b1_1)), (.v (.int .i64 b1_2)), (.v (.int .i64 b1_3))])] = Rref23_Same K a0_0n a0_0 a0_1 a0_2 a0_3 b1_0n b1_0 b1_1 b1_2 b1_3 := by kernel_rfl
theorem pcref23_Same {K : PureK} (hK : KOk X K) {a0_0n : Bool} {a0_0 : List AV} {a0_1 : ByteArray} {a0_2 : Int} {a0_3 : Int} {b1_0n : Bool} {b1_0 : List AV} {b1_1 : ByteArray} {b1_2 : Int} {b1_3 : Int} {v : AV} (h : Rref23_Same K a0_0n a0_0 a0_1 a0_2 a0_3 b1_0n b1_0 b1_1 b1_2 b1_3 = some v) : PureCall X f_ref23_Same [(.agg [(.lst 1 a0_0n a0_0), (.v (.string a0_1)), (.v (.int .i64 a0_2)), (.v (.int .i64 a0_3))]), (.agg [(.lst 1 b1_0n b1_0), (.v (.string b1_1)), (.v (.int .i64 b1_2)), (.v (.int .i64 b1_3))])] v := by
  have hSo0 := soundX
  exact tell_top (X := X) (Y := X) rfl rfl hSo0 hK ((topref23_Same K a0_0n a0_0 a0_1 a0_2 a0_3 b1_0n b1_0 b1_1 b1_2 b1_3).trans h)

/-! 16: escheat/token.Same -/
noncomputable def Rtoken_Same (K : PureK) (a0_0n : Bool) (a0_0 : List AV) (a0_1 : ByteArray) (a0_2 : Int) (a0_3 : Int) (b1_0n : Bool) (b1_0 : List AV) (b1_1 : ByteArray) (b1_2 : Int) (b1_3 : Int) : Option AV :=
  optK (optK (K f_slices_Equal_string_string [AV.lst 1 a0_0n a0_0, AV.lst 1 b1_0n b1_0]) fun wv2 =>
      Ab.asBool wv2 fun wb3 =>
      br wb3
        (br (strEq a0_1 b1_1)
          (br (a0_2 == b1_2)
            (some (bv (a0_3 == b1_3)))
            (some (bv false)))
          (some (bv false)))
        (some (bv false))) fun wv1 =>
    Ab.asBool wv1 fun wb4 =>
    some (bv wb4)
theorem toptoken_Same (K : PureK) (a0_0n : Bool) (a0_0 : List AV) (a0_1 : ByteArray) (a0_2 : Int) (a0_3 : Int) (b1_0n : Bool) (b1_0 : List AV) (b1_1 : ByteArray) (b1_2 : Int) (b1_3 : Int) : topK X K 0 f_token_Same [(.agg [(.lst 1 a0_0n a0_0), (.v (.string a0_1)), (.v (.int .i64 a0_2)), (.v (.int .i64 a0_3))]), (.agg [(.lst 1 b1_0n b1_0), (.v (.string b1_1)), (.v (.int .i64 b1_2)), (.v (.int .i64 b1_3))])] = Rtoken_Same K a0_0n a0_0 a0_1 a0_2 a0_3 b1_0n b1_0 b1_1 b1_2 b1_3 := by kernel_rfl
theorem pctoken_Same {K : PureK} (hK : KOk X K) {a0_0n : Bool} {a0_0 : List AV} {a0_1 : ByteArray} {a0_2 : Int} {a0_3 : Int} {b1_0n : Bool} {b1_0 : List AV} {b1_1 : ByteArray} {b1_2 : Int} {b1_3 : Int} {v : AV} (h : Rtoken_Same K a0_0n a0_0 a0_1 a0_2 a0_3 b1_0n b1_0 b1_1 b1_2 b1_3 = some v) : PureCall X f_token_Same [(.agg [(.lst 1 a0_0n a0_0), (.v (.string a0_1)), (.v (.int .i64 a0_2)), (.v (.int .i64 a0_3))]), (.agg [(.lst 1 b1_0n b1_0), (.v (.string b1_1)), (.v (.int .i64 b1_2)), (.v (.int .i64 b1_3))])] v := by
  have hSo0 := soundX
  exact tell_top (X := X) (Y := X) rfl rfl hSo0 hK ((toptoken_Same K a0_0n a0_0 a0_1 a0_2 a0_3 b1_0n b1_0 b1_1 b1_2 b1_3).trans h)

/-! 11: escheat/escheatref23.Outs -/
inductive Sref23_Outs_0 where
  | s0 (a0n : Bool) (a0 : List AV) (b1n : Bool) (b1 : List AV) (i5 : Int)

inductive Oref23_Outs_0 where
  | x0 (t4 : Bool)
  | x1

def Oref23_Outs_0.k {β : Type} (o : Oref23_Outs_0) (c0 : Bool → Option β) (c1 : Option β) : Option β := match o with
  | .x0 t4 => c0 t4
  | .x1 => c1

def Eref23_Outs_0 : Sref23_Outs_0 → Env
  | .s0 a0n a0 b1n b1 i5 => [(.lst 2 a0n a0), (.lst 2 b1n b1), .dead, .dead, .dead, (.v (.int .i64 i5)), .dead, .dead, .dead, .dead, .dead, .dead, .dead, .dead, .dead, .dead, .dead, .dead, .dead, .dead, .dead, .dead, .dead, .dead, .dead, .dead, .dead, .dead, .dead, .dead, .dead, .dead, .dead, .dead, .dead, .dead, .dead, .dead, .dead, .dead, .dead, .dead]

def Href23_Outs_0 : Sref23_Outs_0 → Heap
  | .s0 a0n a0 b1n b1 i5 => []

def Tref23_Outs_0 {β : Type} (k : Ex → Env → Heap → Option β) (o : Oref23_Outs_0) : Option β := Oref23_Outs_0.k o (fun t4 => k .ret [.dead, .dead, .dead, .dead, (.v (.bool t4)), .dead, .dead, .dead, .dead, .dead, .dead, .dead, .dead, .dead, .dead, .dead, .dead, .dead, .dead, .dead, .dead, .dead, .dead, .dead, .dead, .dead, .dead, .dead, .dead, .dead, .dead, .dead, .dead, .dead, .dead, .dead, .dead, .dead, .dead, .dead, .dead, .dead] []) (k (.exit 0) [.dead, .dead, .dead, .dead, .dead, .dead, .dead, .dead, .dead, .dead, .dead, .dead, .dead, .dead, .dead, .dead, .dead, .dead, .dead, .dead, .dead, .dead, .dead, .dead, .dead, .dead, .dead, .dead, .dead, .dead, .dead, .dead, .dead, .dead, .dead, .dead, .dead, .dead, .dead, .dead, .dead, .dead] [])

def Fref23_Outs_0 (lref23_Outs_0 : Sref23_Outs_0 → Option Oref23_Outs_0) : LoopF := ⟨fun e h k => match Nat.beq e.length 42 with
  | true => (match e.getD 0 .dead, e.getD 1 .dead, e.getD 5 .dead, h with
    | (.lst 2 a0n a0), (.lst 2 b1n b1), (.v (.int .i64 i5)), [] => optK (lref23_Outs_0 (.s0 a0n a0 b1n b1 i5)) (Tref23_Outs_0 k)
    | _, _, _, _ => none)
  | false => none⟩

def clref23_Outs_0 : List Tmp := [2, 3, 4, 6, 7, 8, 9, 10, 11, 12, 13, 14, 15, 16, 17, 18, 19, 20, 21, 22, 23, 24, 25, 26, 27, 28, 29, 30, 31, 32, 33, 34, 35, 36, 37, 38, 39, 40, 41]
def cloref23_Outs_0 : List Tmp := [0, 1, 2, 3, 5, 6, 7, 8, 9, 10, 11, 12, 13, 14, 15, 16, 17, 18, 19, 20, 21, 22, 23, 24, 25, 26, 27, 28, 29, 30, 31, 32, 33, 34, 35, 36, 37, 38, 39, 40, 41]

noncomputable def Rref23_Outs_0 {β : Type} (K : PureK) (d : Oref23_Outs_0 → Option β) (r : Sref23_Outs_0 → Option β) : Sref23_Outs_0 → Option β
  | .s0 a0n a0 b1n b1 i5 =>
    br (decide (i5 < ((a0.length : Nat) : Int)))
      (optK (br (decide (0 ≤ i5))
          (br (decide (i5 < ((a0.length : Nat) : Int)))
            (optK a0[i5.toNat]? fun wv2 =>
            Ab.asAgg wv2 2 fun wg3 =>
            Ab.asInt (wg3 0) .i64 fun wn4 =>
            Ab.asLst (wg3 1) 1 fun wb5 wr5 =>
            br (decide (0 ≤ i5))
              (br (decide (i5 < ((b1.length : Nat) : Int)))
                (optK b1[i5.toNat]? fun wv6 =>
                Ab.asAgg wv6 2 fun wg7 =>
                Ab.asInt (wg7 0) .i64 fun wn8 =>
                Ab.asLst (wg7 1) 1 fun wb9 wr9 =>
                br (wn4 != wn8)
                  (some (bv true))
                  (br (decide (0 ≤ i5))
                    (br (decide (i5 < ((a0.length : Nat) : Int)))
                      (optK a0[i5.toNat]? fun wv10 =>
                      Ab.asAgg wv10 2 fun wg11 =>
                      Ab.asInt (wg11 0) .i64 fun wn12 =>
                      Ab.asLst (wg11 1) 1 fun wb13 wr13 =>
                      br (decide (0 ≤ i5))
                        (br (decide (i5 < ((b1.length : Nat) : Int)))
                          (optK b1[i5.toNat]? fun wv14 =>
                          Ab.asAgg wv14 2 fun wg15 =>
                          Ab.asInt (wg15 0) .i64 fun wn16 =>
                          Ab.asLst (wg15 1) 1 fun wb17 wr17 =>
                          optK (K f_ref10_Texts [AV.lst 1 wb13 wr13, AV.lst 1 wb17 wr17]) fun wv18 =>
                          Ab.asBool wv18 fun wb19 =>
                          some (bv !wb19))
                          (none))
                        (none))
                      (none))
                    (none)))
                (none))
              (none))
            (none))
          (none)) fun wv1 =>
      Ab.asBool wv1 fun wb20 =>
      br wb20
        (d (.x0 false))
        (r (.s0 a0n a0 b1n b1 (w64 (i5 + 1)))))
      (d (.x1))
theorem roundref23_Outs_0 (K : PureK) {β : Type} (r : Env → Heap → Option β) (k : Ex → Env → Heap → Option β) (s : Sref23_Outs_0) : tellOne X K 0 11 0 [(0, 1, 0), (1, 1, 0), (2, 1, 0)] 0 clref23_Outs_0 cloref23_Outs_0 r k (Eref23_Outs_0 s) (Href23_Outs_0 s) = Rref23_Outs_0 K (Tref23_Outs_0 k) (fun s => r (Eref23_Outs_0 s) (Href23_Outs_0 s)) s := by
  cases s <;> kernel_rfl
theorem Oref23_Outs_0.bind_k {β γ : Type} (o : Oref23_Outs_0) (c0 : Bool → Option β) (c1 : Option β) (φ : β → Option γ) : (Oref23_Outs_0.k o c0 c1).bind φ = Oref23_Outs_0.k o (fun t4 => (c0 t4).bind φ) (c1.bind φ) := by cases o <;> rfl
theorem natref23_Outs_0 (K : PureK) {β γ : Type} (φ : β → Option γ) (d : Oref23_Outs_0 → Option β) (r : Sref23_Outs_0 → Option β) (s : Sref23_Outs_0) : Rref23_Outs_0 K (fun o => (d o).bind φ) (fun s => (r s).bind φ) s = (Rref23_Outs_0 K d r s).bind φ := by
  cases s <;> simp only [Rref23_Outs_0, bind_optK, bind_br, bind_asInt, bind_asBool, bind_asStr, bind_asLst, bind_asAgg, bind_asTup, bind_asBig, bind_asErr, bind_none]
theorem outref23_Outs_0 (o : Oref23_Outs_0) : ∃ x e' h', ∀ {β : Type} (k : Ex → Env → Heap → Option β), Tref23_Outs_0 k o = k x e' h' := by cases o <;> exact ⟨_, _, _, fun _ => rfl⟩
theorem okref23_Outs_0 {K : PureK} (hX : Sound X) (hK : KOk X K) {lref23_Outs_0 : Sref23_Outs_0 → Option Oref23_Outs_0} (hl : ∀ s o, lref23_Outs_0 s = some o → ∃ m, fuelRec (Rref23_Outs_0 K some) m s = some o) (β : Type) (e : Env) (h : Heap) (k : Ex → Env → Heap → Option β) (r : β) (hr : (Fref23_Outs_0 lref23_Outs_0).run e h k = some r) : ∃ x e' h', k x e' h' = some r ∧ CodeAt X (.loop (loopBody (X).P 11 0)) e h x e' h' := by
  obtain ⟨fn, c, hin⟩ := loopIn_of (X := X) (f := 11) (i := 0) (key := 4) (by kernel_rfl)
  simp only [Fref23_Outs_0] at hr
  split at hr
  · rename_i hlen
    have hlen := Nat.eq_of_beq_eq_true hlen
    split at hr
    · rename_i q0 q1 q5
      obtain ⟨o, ho, hr⟩ := optK_some hr
      refine tell_ok hX (KOk.congr (X := X) (Y := X) rfl rfl hK) hin (E := Eref23_Outs_0) (H := Href23_Outs_0) (R := fun d r => Rref23_Outs_0 K d r) (T := Tref23_Outs_0) (ts := [(0, 1, 0), (1, 1, 0), (2, 1, 0)]) (len := 0) (cl := clref23_Outs_0) (clo := cloref23_Outs_0) (roundref23_Outs_0 K) (natref23_Outs_0 K) outref23_Outs_0 (hl _ _ ho) (cl0 := clref23_Outs_0) (ts0 := []) ?_ rfl (by kernel_rfl) (by kernel_rfl) hr
      rw [clear_lit e 42 hlen, show clearEnv clref23_Outs_0 ((List.range 42).map fun i => e.getD i .dead) = [e.getD 0 .dead, e.getD 1 .dead, .dead, .dead, .dead, e.getD 5 .dead, .dead, .dead, .dead, .dead, .dead, .dead, .dead, .dead, .dead, .dead, .dead, .dead, .dead, .dead, .dead, .dead, .dead, .dead, .dead, .dead, .dead, .dead, .dead, .dead, .dead, .dead, .dead, .dead, .dead, .dead, .dead, .dead, .dead, .dead, .dead, .dead] from by kernel_rfl]; rw [q0, q1, q5]
      kernel_rfl
    · cases hr
  · cases hr
noncomputable def Rref23_Outs (K : PureK) (lref23_Outs_0 : Sref23_Outs_0 → Option Oref23_Outs_0) (a0n : Bool) (a0 : List AV) (b1n : Bool) (b1 : List AV) : Option AV :=
  br (((a0.length : Nat) : Int) != ((b1.length : Nat) : Int))
      (some (bv false))
      (optK (lref23_Outs_0 (Sref23_Outs_0.s0 a0n a0 b1n b1 0)) fun wo1 => Oref23_Outs_0.k wo1
        (fun (t4_2 : Bool) => some (bv t4_2))
        (some (bv true)))
theorem topref23_Outs (K : PureK) (lref23_Outs_0 : Sref23_Outs_0 → Option Oref23_Outs_0) (a0n : Bool) (a0 : List AV) (b1n : Bool) (b1 : List AV) : topK (addLp X 11 4 (Fref23_Outs_0 lref23_Outs_0)) K 0 f_ref23_Outs [(.lst 2 a0n a0), (.lst 2 b1n b1)] = Rref23_Outs K lref23_Outs_0 a0n a0 b1n b1 := by kernel_rfl
theorem pcref23_Outs {K : PureK} (hK : KOk X K) {lref23_Outs_0 : Sref23_Outs_0 → Option Oref23_Outs_0} (href23_Outs_0 : ∀ s o, lref23_Outs_0 s = some o → ∃ m, fuelRec (Rref23_Outs_0 K some) m s = some o) {a0n : Bool} {a0 : List AV} {b1n : Bool} {b1 : List AV} {v : AV} (h : Rref23_Outs K lref23_Outs_0 a0n a0 b1n b1 = some v) : PureCall X f_ref23_Outs [(.lst 2 a0n a0), (.lst 2 b1n b1)] v := by
  have hSo0 := soundX
  obtain ⟨_, _, hin0⟩ := loopIn_of (X := X) (f := 11) (i := 0) (key := 4) (by kernel_rfl)
  have hSo1 := sound_add hSo0 hin0 (okref23_Outs_0 hSo0 hK href23_Outs_0)
  exact tell_top (X := X) (Y := (addLp X 11 4 (Fref23_Outs_0 lref23_Outs_0))) rfl rfl hSo1 hK ((topref23_Outs K lref23_Outs_0 a0n a0 b1n b1).trans h)

/-! 12: escheat/escheatlaw23.plain -/
inductive Slaw23_plain_0 where
  | s0 (s0 : ByteArray) (i3 : Int)

inductive Olaw23_plain_0 where
  | x0 (s0 : ByteArray) (t2 : Bool)
  | x1 (s0 : ByteArray)

def Olaw23_plain_0.k {β : Type} (o : Olaw23_plain_0) (c0 : ByteArray → Bool → Option β) (c1 : ByteArray → Option β) : Option β := match o with
  | .x0 s0 t2 => c0 s0 t2
  | .x1 s0 => c1 s0

def Elaw23_plain_0 : Slaw23_plain_0 → Env
  | .s0 s0 i3 => [(.v (.string s0)), .dead, .dead, (.v (.int .i64 i3)), .dead, .dead, .dead, .dead, .dead, .dead, .dead, .dead, .dead, .dead, .dead, .dead, .dead, .dead, .dead, .dead, .dead, .dead, .dead, .dead, .dead, .dead, .dead, .dead, .dead, .dead, .dead, .dead, .dead, .dead, .dead, .dead, .dead, .dead, .dead, .dead, .dead, .dead, .dead, .dead, .dead, .dead]

def Hlaw23_plain_0 : Slaw23_plain_0 → Heap
  | .s0 s0 i3 => []

def Tlaw23_plain_0 {β : Type} (k : Ex → Env → Heap → Option β) (o : Olaw23_plain_0) : Option β := Olaw23_plain_0.k o (fun s0 t2 => k .ret [(.v (.string s0)), .dead, (.v (.bool t2)), .dead, .dead, .dead, .dead, .dead, .dead, .dead, .dead, .dead, .dead, .dead, .dead, .dead, .dead, .dead, .dead, .dead, .dead, .dead, .dead, .dead, .dead, .dead, .dead, .dead, .dead, .dead, .dead, .dead, .dead, .dead, .dead, .dead, .dead, .dead, .dead, .dead, .dead, .dead, .dead, .dead, .dead, .dead] []) (fun s0 => k (.exit 0) [(.v (.string s0)), .dead, .dead, .dead, .dead, .dead, .dead, .dead, .dead, .dead, .dead, .dead, .dead, .dead, .dead, .dead, .dead, .dead, .dead, .dead, .dead, .dead, .dead, .dead, .dead, .dead, .dead, .dead, .dead, .dead, .dead, .dead, .dead, .dead, .dead, .dead, .dead, .dead, .dead, .dead, .dead, .dead, .dead, .dead, .dead, .dead] [])

def Flaw23_plain_0 (llaw23_plain_0 : Slaw23_plain_0 → Option Olaw23_plain_0) : LoopF := ⟨fun e h k => match Nat.beq e.length 46 with
  | true => (match e.getD 0 .dead, e.getD 3 .dead, h with
    | (.v (.string s0)), (.v (.int .i64 i3)), [] => optK (llaw23_plain_0 (.s0 s0 i3)) (Tlaw23_plain_0 k)
    | _, _, _ => none)
  | false => none⟩

def cllaw23_plain_0 : List Tmp := [1, 2, 4, 5, 6, 7, 8, 9, 10, 11, 12, 13, 14, 15, 16, 17, 18, 19, 20, 21, 22, 23, 24, 25, 26, 27, 28, 29, 30, 31, 32, 33, 34, 35, 36, 37, 38, 39, 40, 41, 42, 43, 44, 45]
def clolaw23_plain_0 : List Tmp := [1, 3, 4, 5, 6, 7, 8, 9, 10, 11, 12, 13, 14, 15, 16, 17, 18, 19, 20, 21, 22, 23, 24, 25, 26, 27, 28, 29, 30, 31, 32, 33, 34, 35, 36, 37, 38, 39, 40, 41, 42, 43, 44, 45]

noncomputable def Rlaw23_plain_0 {β : Type} (K : PureK) (d : Olaw23_plain_0 → Option β) (r : Slaw23_plain_0 → Option β) : Slaw23_plain_0 → Option β
  | .s0 s0 i3 =>
    optK (br (decide (i3 < ((s0.size : Nat) : Int)))
        (some (bv (decide (i3 < 301))))
        (some (bv false))) fun wv1 =>
    Ab.asBool wv1 fun wb2 =>
    br wb2
      (br (decide (0 ≤ i3))
        (br (decide (i3 < ((s0.size : Nat) : Int)))
          (optK (br (decide (w8 ((((BitVec.ofInt 8 (bt s0 i3.toNat) ||| BitVec.ofInt 8 32).toNat : Nat) : Int)) < 97))
              (br (decide (0 ≤ i3))
                (br (decide (i3 < ((s0.size : Nat) : Int)))
                  (br (decide (bt s0 i3.toNat < 48))
                    (br (decide (0 ≤ i3))
                      (br (decide (i3 < ((s0.size : Nat) : Int)))
                        (some (bv (bt s0 i3.toNat != 32)))
                        (none))
                      (none))
                    (br (decide (0 ≤ i3))
                      (br (decide (i3 < ((s0.size : Nat) : Int)))
                        (br (decide (bt s0 i3.toNat > 57))
                          (br (decide (0 ≤ i3))
                            (br (decide (i3 < ((s0.size : Nat) : Int)))
                              (some (bv (bt s0 i3.toNat != 32)))
                              (none))
                            (none))
                          (some (bv false)))
                        (none))
                      (none)))
                  (none))
                (none))
              (br (decide (w8 ((((BitVec.ofInt 8 (bt s0 i3.toNat) ||| BitVec.ofInt 8 32).toNat : Nat) : Int)) > 122))
                (br (decide (0 ≤ i3))
                  (br (decide (i3 < ((s0.size : Nat) : Int)))
                    (br (decide (bt s0 i3.toNat < 48))
                      (br (decide (0 ≤ i3))
                        (br (decide (i3 < ((s0.size : Nat) : Int)))
                          (some (bv (bt s0 i3.toNat != 32)))
                          (none))
                        (none))
                      (br (decide (0 ≤ i3))
                        (br (decide (i3 < ((s0.size : Nat) : Int)))
                          (br (decide (bt s0 i3.toNat > 57))
                            (br (decide (0 ≤ i3))
                              (br (decide (i3 < ((s0.size : Nat) : Int)))
                                (some (bv (bt s0 i3.toNat != 32)))
                                (none))
                              (none))
                            (some (bv false)))
                          (none))
                        (none)))
                    (none))
                  (none))
                (some (bv false)))) fun wv3 =>
          Ab.asBool wv3 fun wb4 =>
          br wb4
            (d (.x0 s0 false))
            (r (.s0 s0 (w64 (i3 + 1)))))
          (none))
        (none))
      (d (.x1 s0))
theorem roundlaw23_plain_0 (K : PureK) {β : Type} (r : Env → Heap → Option β) (k : Ex → Env → Heap → Option β) (s : Slaw23_plain_0) : tellOne X K 0 12 0 [(0, 1, 0), (1, 1, 0), (2, 1, 0)] 0 cllaw23_plain_0 clolaw23_plain_0 r k (Elaw23_plain_0 s) (Hlaw23_plain_0 s) = Rlaw23_plain_0 K (Tlaw23_plain_0 k) (fun s => r (Elaw23_plain_0 s) (Hlaw23_plain_0 s)) s := by
  cases s <;> kernel_rfl
theorem Olaw23_plain_0.bind_k {β γ : Type} (o : Olaw23_plain_0) (c0 : ByteArray → Bool → Option β) (c1 : ByteArray → Option β) (φ : β → Option γ) : (Olaw23_plain_0.k o c0 c1).bind φ = Olaw23_plain_0.k o (fun s0 t2 => (c0 s0 t2).bind φ) (fun s0 => (c1 s0).bind φ) := by cases o <;> rfl
theorem natlaw23_plain_0 (K : PureK) {β γ : Type} (φ : β → Option γ) (d : Olaw23_plain_0 → Option β) (r : Slaw23_plain_0 → Option β) (s : Slaw23_plain_0) : Rlaw23_plain_0 K (fun o => (d o).bind φ) (fun s => (r s).bind φ) s = (Rlaw23_plain_0 K d r s).bind φ := by
  cases s <;> simp only [Rlaw23_plain_0, bind_optK, bind_br, bind_asInt, bind_asBool, bind_asStr, bind_asLst, bind_asAgg, bind_asTup, bind_asBig, bind_asErr, bind_none]
theorem outlaw23_plain_0 (o : Olaw23_plain_0) : ∃ x e' h', ∀ {β : Type} (k : Ex → Env → Heap → Option β), Tlaw23_plain_0 k o = k x e' h' := by cases o <;> exact ⟨_, _, _, fun _ => rfl⟩
theorem oklaw23_plain_0 {K : PureK} (hX : Sound X) (hK : KOk X K) {llaw23_plain_0 : Slaw23_plain_0 → Option Olaw23_plain_0} (hl : ∀ s o, llaw23_plain_0 s = some o → ∃ m, fuelRec (Rlaw23_plain_0 K some) m s = some o) (β : Type) (e : Env) (h : Heap) (k : Ex → Env → Heap → Option β) (r : β) (hr : (Flaw23_plain_0 llaw23_plain_0).run e h k = some r) : ∃ x e' h', k x e' h' = some r ∧ CodeAt X (.loop (loopBody (X).P 12 0)) e h x e' h' := by
  obtain ⟨fn, c, hin⟩ := loopIn_of (X := X) (f := 12) (i := 0) (key := 2) (by kernel_rfl)
  simp only [Flaw23_plain_0] at hr
  split at hr
  · rename_i hlen
    have hlen := Nat.eq_of_beq_eq_true hlen
    split at hr
    · rename_i q0 q3
      obtain ⟨o, ho, hr⟩ := optK_some hr
      refine tell_ok hX (KOk.congr (X := X) (Y := X) rfl rfl hK) hin (E := Elaw23_plain_0) (H := Hlaw23_plain_0) (R := fun d r => Rlaw23_plain_0 K d r) (T := Tlaw23_plain_0) (ts := [(0, 1, 0), (1, 1, 0), (2, 1, 0)]) (len := 0) (cl := cllaw23_plain_0) (clo := clolaw23_plain_0) (roundlaw23_plain_0 K) (natlaw23_plain_0 K) outlaw23_plain_0 (hl _ _ ho) (cl0 := cllaw23_plain_0) (ts0 := []) ?_ rfl (by kernel_rfl) (by kernel_rfl) hr
      rw [clear_lit e 46 hlen, show clearEnv cllaw23_plain_0 ((List.range 46).map fun i => e.getD i .dead) = [e.getD 0 .dead, .dead, .dead, e.getD 3 .dead, .dead, .dead, .dead, .dead, .dead, .dead, .dead, .dead, .dead, .dead, .dead, .dead, .dead, .dead, .dead, .dead, .dead, .dead, .dead, .dead, .dead, .dead, .dead, .dead, .dead, .dead, .dead, .dead, .dead, .dead, .dead, .dead, .dead, .dead, .dead, .dead, .dead, .dead, .dead, .dead, .dead, .dead] from by kernel_rfl]; rw [q0, q3]
      kernel_rfl
    · cases hr
  · cases hr
noncomputable def Rlaw23_plain (K : PureK) (llaw23_plain_0 : Slaw23_plain_0 → Option Olaw23_plain_0) (s0 : ByteArray) : Option AV :=
  optK (llaw23_plain_0 (Slaw23_plain_0.s0 s0 0)) fun wo1 => Olaw23_plain_0.k wo1
      (fun (s0_2 : ByteArray) (t2_2 : Bool) => some (bv t2_2))
      (fun (s0_3 : ByteArray) => some (bv (decide (((s0_3.size : Nat) : Int) ≤ 300))))
theorem toplaw23_plain (K : PureK) (llaw23_plain_0 : Slaw23_plain_0 → Option Olaw23_plain_0) (s0 : ByteArray) : topK (addLp X 12 2 (Flaw23_plain_0 llaw23_plain_0)) K 0 f_law23_plain [(.v (.string s0))] = Rlaw23_plain K llaw23_plain_0 s0 := by kernel_rfl
theorem pclaw23_plain {K : PureK} (hK : KOk X K) {llaw23_plain_0 : Slaw23_plain_0 → Option Olaw23_plain_0} (hlaw23_plain_0 : ∀ s o, llaw23_plain_0 s = some o → ∃ m, fuelRec (Rlaw23_plain_0 K some) m s = some o) {s0 : ByteArray} {v : AV} (h : Rlaw23_plain K llaw23_plain_0 s0 = some v) : PureCall X f_law23_plain [(.v (.string s0))] v := by
  have hSo0 := soundX
  obtain ⟨_, _, hin0⟩ := loopIn_of (X := X) (f := 12) (i := 0) (key := 2) (by kernel_rfl)
  have hSo1 := sound_add hSo0 hin0 (oklaw23_plain_0 hSo0 hK hlaw23_plain_0)
  exact tell_top (X := X) (Y := (addLp X 12 2 (Flaw23_plain_0 llaw23_plain_0))) rfl rfl hSo1 hK ((toplaw23_plain K llaw23_plain_0 s0).trans h)

end Go.Proofs.YtphbfkncimifoaaDoor
