/- What further functions do, told. -/
import Derived.Test.YtmiffikcnkgcpaaGreatDoorCtx
set_option linter.unusedVariables false
set_option linter.unusedSimpArgs false
set_option maxRecDepth 100000
namespace Go.Proofs.YtmiffikcnkgcpaaGreatDoor
open Go Go.Ab

/-! 23: escheat/date.clock -/
inductive Sdate_clock_strings_genSplit_0 where
  | s0 (s0 : ByteArray) (sep1 : ByteArray) (sepSave2 : Int) (n3 : Int) (i10 : Int) (obj0 : List AV)

inductive Odate_clock_strings_genSplit_0 where
  | x0 (s0 : ByteArray) (i10 : Int) (obj0 : List AV)

def Odate_clock_strings_genSplit_0.k {β : Type} (o : Odate_clock_strings_genSplit_0) (c0 : ByteArray → Int → (List AV) → Option β) : Option β := match o with
  | .x0 s0 i10 obj0 => c0 s0 i10 obj0

def Edate_clock_strings_genSplit_0 : Sdate_clock_strings_genSplit_0 → Env
  | .s0 s0 sep1 sepSave2 n3 i10 obj0 => [(.v (.string s0)), (.v (.string sep1)), (.v (.int .i64 sepSave2)), (.v (.int .i64 n3)), .dead, .dead, .dead, .dead, .dead, (.own 0 0 0 none), (.v (.int .i64 i10)), .dead, .dead, .dead, .dead, .dead, .dead, .dead, .dead, .dead, .dead, .dead, .dead, .dead, .dead, .dead, .dead, .dead, .dead, .dead, .dead, .dead, .dead, .dead, .dead, .dead, .dead, .dead, .dead, .dead, .dead, .dead, .dead, .dead, .dead, .dead, .dead, .dead, .dead, .dead, .dead, .dead, .dead, .dead, .dead, .dead, .dead, .dead, .dead, .dead, .dead, .dead, .dead, .dead, .dead, .dead]

def Hdate_clock_strings_genSplit_0 : Sdate_clock_strings_genSplit_0 → Heap
  | .s0 s0 sep1 sepSave2 n3 i10 obj0 => [⟨obj0, 0, 0, true, false, 9, 1, none⟩]

def Tdate_clock_strings_genSplit_0 {β : Type} (k : Ex → Env → Heap → Option β) (o : Odate_clock_strings_genSplit_0) : Option β := Odate_clock_strings_genSplit_0.k o (fun s0 i10 obj0 => k (.exit 0) [(.v (.string s0)), .dead, .dead, .dead, .dead, .dead, .dead, .dead, .dead, (.own 0 0 0 none), (.v (.int .i64 i10)), .dead, .dead, .dead, .dead, .dead, .dead, .dead, .dead, .dead, .dead, .dead, .dead, .dead, .dead, .dead, .dead, .dead, .dead, .dead, .dead, .dead, .dead, .dead, .dead, .dead, .dead, .dead, .dead, .dead, .dead, .dead, .dead, .dead, .dead, .dead, .dead, .dead, .dead, .dead, .dead, .dead, .dead, .dead, .dead, .dead, .dead, .dead, .dead, .dead, .dead, .dead, .dead, .dead, .dead, .dead] [⟨obj0, 0, 0, true, false, 9, 1, none⟩])

def Fdate_clock_strings_genSplit_0 (ldate_clock_strings_genSplit_0 : Sdate_clock_strings_genSplit_0 → Option Odate_clock_strings_genSplit_0) : LoopF := ⟨fun e h k => match Nat.beq e.length 66 with
  | true => (match e.getD 0 .dead, e.getD 1 .dead, e.getD 2 .dead, e.getD 3 .dead, e.getD 9 .dead, e.getD 10 .dead, h with
    | (.v (.string s0)), (.v (.string sep1)), (.v (.int .i64 sepSave2)), (.v (.int .i64 n3)), (.own 0 0 0 none), (.v (.int .i64 i10)), [⟨obj0, 0, 0, true, false, 9, 1, none⟩] => optK (ldate_clock_strings_genSplit_0 (.s0 s0 sep1 sepSave2 n3 i10 obj0)) (Tdate_clock_strings_genSplit_0 k)
    | _, _, _, _, _, _, _ => none)
  | false => none⟩

def cldate_clock_strings_genSplit_0 : List Tmp := [4, 5, 6, 7, 8, 11, 12, 13, 14, 15, 16, 17, 18, 19, 20, 21, 22, 23, 24, 25, 26, 27, 28, 29, 30, 31, 32, 33, 34, 35, 36, 37, 38, 39, 40, 41, 42, 43, 44, 45, 46, 47, 48, 49, 50, 51, 52, 53, 54, 55, 56, 57, 58, 59, 60, 61, 62, 63, 64, 65]
def clodate_clock_strings_genSplit_0 : List Tmp := [1, 2, 3, 4, 5, 6, 7, 8, 11, 12, 13, 14, 15, 16, 17, 18, 19, 20, 21, 22, 23, 24, 25, 26, 27, 28, 29, 30, 31, 32, 33, 34, 35, 36, 37, 38, 39, 40, 41, 42, 43, 44, 45, 46, 47, 48, 49, 50, 51, 52, 53, 54, 55, 56, 57, 58, 59, 60, 61, 62, 63, 64, 65]

noncomputable def Rdate_clock_strings_genSplit_0 {β : Type} (K : PureK) (d : Odate_clock_strings_genSplit_0 → Option β) (r : Sdate_clock_strings_genSplit_0 → Option β) : Sdate_clock_strings_genSplit_0 → Option β
  | .s0 s0 sep1 sepSave2 n3 i10 obj0 =>
    br (decide (i10 < n3))
      (optK (K f_strings_Index [sv s0, sv sep1]) fun wv1 =>
      Ab.asInt wv1 .i64 fun wn2 =>
      br (decide (wn2 < 0))
        (d (.x0 s0 i10 obj0))
        (br (decide (0 ≤ w64 (wn2 + sepSave2)))
          (br (decide (w64 (wn2 + sepSave2) ≤ ((s0.size : Nat) : Int)))
            (br (decide (0 ≤ i10))
              (br (decide (i10 < ((obj0.length : Nat) : Int)))
                (br (decide (0 ≤ w64 (wn2 + ((sep1.size : Nat) : Int))))
                  (br (decide (w64 (wn2 + ((sep1.size : Nat) : Int)) ≤ ((s0.size : Nat) : Int)))
                    (r (.s0 (cutStr s0 (some (w64 (wn2 + ((sep1.size : Nat) : Int)))) none) sep1 sepSave2 n3 (w64 (i10 + 1)) (obj0.set (0 + i10.toNat) (sv (cutStr s0 none (some (w64 (wn2 + sepSave2))))))))
                    (none))
                  (none))
                (none))
              (none))
            (none))
          (none)))
      (d (.x0 s0 i10 obj0))
theorem rounddate_clock_strings_genSplit_0 (K : PureK) {β : Type} (r : Env → Heap → Option β) (k : Ex → Env → Heap → Option β) (s : Sdate_clock_strings_genSplit_0) : tellOne (withInl X [20, 45]) K 0 45 0 [(1, 1, 0), (2, 1, 0), (3, 1, 0)] 1 cldate_clock_strings_genSplit_0 clodate_clock_strings_genSplit_0 r k (Edate_clock_strings_genSplit_0 s) (Hdate_clock_strings_genSplit_0 s) = Rdate_clock_strings_genSplit_0 K (Tdate_clock_strings_genSplit_0 k) (fun s => r (Edate_clock_strings_genSplit_0 s) (Hdate_clock_strings_genSplit_0 s)) s := by
  cases s <;> kernel_rfl
theorem Odate_clock_strings_genSplit_0.bind_k {β γ : Type} (o : Odate_clock_strings_genSplit_0) (c0 : ByteArray → Int → (List AV) → Option β) (φ : β → Option γ) : (Odate_clock_strings_genSplit_0.k o c0).bind φ = Odate_clock_strings_genSplit_0.k o (fun s0 i10 obj0 => (c0 s0 i10 obj0).bind φ) := by cases o <;> rfl
theorem natdate_clock_strings_genSplit_0 (K : PureK) {β γ : Type} (φ : β → Option γ) (d : Odate_clock_strings_genSplit_0 → Option β) (r : Sdate_clock_strings_genSplit_0 → Option β) (s : Sdate_clock_strings_genSplit_0) : Rdate_clock_strings_genSplit_0 K (fun o => (d o).bind φ) (fun s => (r s).bind φ) s = (Rdate_clock_strings_genSplit_0 K d r s).bind φ := by
  cases s <;> simp only [Rdate_clock_strings_genSplit_0, bind_optK, bind_br, bind_asInt, bind_asBool, bind_asStr, bind_asLst, bind_asAgg, bind_asTup, bind_asBig, bind_asErr, bind_none]
theorem outdate_clock_strings_genSplit_0 (o : Odate_clock_strings_genSplit_0) : ∃ x e' h', ∀ {β : Type} (k : Ex → Env → Heap → Option β), Tdate_clock_strings_genSplit_0 k o = k x e' h' := by cases o <;> exact ⟨_, _, _, fun _ => rfl⟩
theorem okdate_clock_strings_genSplit_0 {K : PureK} (hX : Sound (withInl X [20, 45])) (hK : KOk X K) {ldate_clock_strings_genSplit_0 : Sdate_clock_strings_genSplit_0 → Option Odate_clock_strings_genSplit_0} (hl : ∀ s o, ldate_clock_strings_genSplit_0 s = some o → ∃ m, fuelRec (Rdate_clock_strings_genSplit_0 K some) m s = some o) (β : Type) (e : Env) (h : Heap) (k : Ex → Env → Heap → Option β) (r : β) (hr : (Fdate_clock_strings_genSplit_0 ldate_clock_strings_genSplit_0).run e h k = some r) : ∃ x e' h', k x e' h' = some r ∧ CodeAt (withInl X [20, 45]) (.loop (loopBody ((withInl X [20, 45])).P 45 0)) e h x e' h' := by
  obtain ⟨fn, c, hin⟩ := loopIn_of (X := (withInl X [20, 45])) (f := 45) (i := 0) (key := 11) (by kernel_rfl)
  simp only [Fdate_clock_strings_genSplit_0] at hr
  split at hr
  · rename_i hlen
    have hlen := Nat.eq_of_beq_eq_true hlen
    split at hr
    · rename_i q0 q1 q2 q3 q9 q10
      obtain ⟨o, ho, hr⟩ := optK_some hr
      refine tell_ok hX (KOk.congr (X := X) (Y := (withInl X [20, 45])) rfl rfl hK) hin (E := Edate_clock_strings_genSplit_0) (H := Hdate_clock_strings_genSplit_0) (R := fun d r => Rdate_clock_strings_genSplit_0 K d r) (T := Tdate_clock_strings_genSplit_0) (ts := [(1, 1, 0), (2, 1, 0), (3, 1, 0)]) (len := 1) (cl := cldate_clock_strings_genSplit_0) (clo := clodate_clock_strings_genSplit_0) (rounddate_clock_strings_genSplit_0 K) (natdate_clock_strings_genSplit_0 K) outdate_clock_strings_genSplit_0 (hl _ _ ho) (cl0 := cldate_clock_strings_genSplit_0) (ts0 := []) ?_ rfl (by kernel_rfl) (by kernel_rfl) hr
      rw [clear_lit e 66 hlen, show clearEnv cldate_clock_strings_genSplit_0 ((List.range 66).map fun i => e.getD i .dead) = [e.getD 0 .dead, e.getD 1 .dead, e.getD 2 .dead, e.getD 3 .dead, .dead, .dead, .dead, .dead, .dead, e.getD 9 .dead, e.getD 10 .dead, .dead, .dead, .dead, .dead, .dead, .dead, .dead, .dead, .dead, .dead, .dead, .dead, .dead, .dead, .dead, .dead, .dead, .dead, .dead, .dead, .dead, .dead, .dead, .dead, .dead, .dead, .dead, .dead, .dead, .dead, .dead, .dead, .dead, .dead, .dead, .dead, .dead, .dead, .dead, .dead, .dead, .dead, .dead, .dead, .dead, .dead, .dead, .dead, .dead, .dead, .dead, .dead, .dead, .dead, .dead] from by kernel_rfl]; rw [q0, q1, q2, q3, q9, q10]
      kernel_rfl
    · cases hr
  · cases hr
inductive Sdate_clock_0 where
  | s0 (n7 : Int) (t27 : Int) (t28 : Int) (obj0 : List AV)

inductive Odate_clock_0 where
  | x0 (t4 : Int) (t5 : Bool) (n7 : Int) (obj0 : List AV)
  | x1 (n7 : Int) (obj0 : List AV)

def Odate_clock_0.k {β : Type} (o : Odate_clock_0) (c0 : Int → Bool → Int → (List AV) → Option β) (c1 : Int → (List AV) → Option β) : Option β := match o with
  | .x0 t4 t5 n7 obj0 => c0 t4 t5 n7 obj0
  | .x1 n7 obj0 => c1 n7 obj0

def Edate_clock_0 : Sdate_clock_0 → Env
  | .s0 n7 t27 t28 obj0 => [.dead, .dead, .dead, .dead, .dead, .dead, .dead, (.v (.int .i64 n7)), .dead, .dead, .dead, .dead, .dead, .dead, .dead, .dead, .dead, .dead, .dead, .dead, .dead, .dead, .dead, .dead, .dead, .dead, (.own 0 1 0 none), (.v (.int .i64 t27)), (.v (.int .i64 t28)), .dead, .dead, .dead, .dead, .dead, .dead, .dead, .dead, .dead, .dead, .dead, .dead, .dead, .dead, .dead, .dead, .dead, .dead, .dead, .dead, .dead, .dead, .dead, .dead, .dead, .dead, .dead, .dead, .dead]

def Hdate_clock_0 : Sdate_clock_0 → Heap
  | .s0 n7 t27 t28 obj0 => [⟨obj0, 1, 0, true, false, 9, 1, none⟩]

def Tdate_clock_0 {β : Type} (k : Ex → Env → Heap → Option β) (o : Odate_clock_0) : Option β := Odate_clock_0.k o (fun t4 t5 n7 obj0 => k .ret [.dead, .dead, .dead, .dead, (.v (.int .i64 t4)), (.v (.bool t5)), .dead, (.v (.int .i64 n7)), .dead, .dead, .dead, .dead, .dead, .dead, .dead, .dead, .dead, .dead, .dead, .dead, .dead, .dead, .dead, .dead, .dead, .dead, .dead, .dead, .dead, .dead, .dead, .dead, .dead, .dead, .dead, .dead, .dead, .dead, .dead, .dead, .dead, .dead, .dead, .dead, .dead, .dead, .dead, .dead, .dead, .dead, .dead, .dead, .dead, .dead, .dead, .dead, .dead, .dead] [⟨obj0, 1, 0, true, false, 9, 1, none⟩]) (fun n7 obj0 => k (.exit 0) [.dead, .dead, .dead, .dead, .dead, .dead, .dead, (.v (.int .i64 n7)), .dead, .dead, .dead, .dead, .dead, .dead, .dead, .dead, .dead, .dead, .dead, .dead, .dead, .dead, .dead, .dead, .dead, .dead, .dead, .dead, .dead, .dead, .dead, .dead, .dead, .dead, .dead, .dead, .dead, .dead, .dead, .dead, .dead, .dead, .dead, .dead, .dead, .dead, .dead, .dead, .dead, .dead, .dead, .dead, .dead, .dead, .dead, .dead, .dead, .dead] [⟨obj0, 1, 0, true, false, 9, 1, none⟩])

def Fdate_clock_0 (ldate_clock_0 : Sdate_clock_0 → Option Odate_clock_0) : LoopF := ⟨fun e h k => match Nat.beq e.length 58 with
  | true => (match e.getD 7 .dead, e.getD 26 .dead, e.getD 27 .dead, e.getD 28 .dead, h with
    | (.v (.int .i64 n7)), (.own 0 1 0 none), (.v (.int .i64 t27)), (.v (.int .i64 t28)), [⟨obj0, 1, 0, true, false, 9, 1, none⟩] => optK (ldate_clock_0 (.s0 n7 t27 t28 obj0)) (Tdate_clock_0 k)
    | _, _, _, _, _ => none)
  | false => none⟩

def cldate_clock_0 : List Tmp := [0, 1, 2, 3, 4, 5, 6, 8, 9, 10, 11, 12, 13, 14, 15, 16, 17, 18, 19, 20, 21, 22, 23, 24, 25, 29, 30, 31, 32, 33, 34, 35, 36, 37, 38, 39, 40, 41, 42, 43, 44, 45, 46, 47, 48, 49, 50, 51, 52, 53, 54, 55, 56, 57]
def clodate_clock_0 : List Tmp := [0, 1, 2, 3, 6, 8, 9, 10, 11, 12, 13, 14, 15, 16, 17, 18, 19, 20, 21, 22, 23, 24, 25, 26, 27, 28, 29, 30, 31, 32, 33, 34, 35, 36, 37, 38, 39, 40, 41, 42, 43, 44, 45, 46, 47, 48, 49, 50, 51, 52, 53, 54, 55, 56, 57]

noncomputable def Rdate_clock_0 {β : Type} (K : PureK) (d : Odate_clock_0 → Option β) (r : Sdate_clock_0 → Option β) : Sdate_clock_0 → Option β
  | .s0 n7 t27 t28 obj0 =>
    br (decide (t28 < t27))
      (br (decide (0 ≤ t28))
        (br (decide (t28 < ((obj0.length : Nat) : Int)))
          (optK (obj0[0 + t28.toNat]?) fun wv1 =>
          Ab.asStr wv1 fun ws2 =>
          optK (K f_date_number [sv ws2, iv 2, iv 2]) fun wv3 =>
          Ab.asTup wv3 2 fun wg4 =>
          Ab.asInt (wg4 0) .i64 fun wn5 =>
          Ab.asBool (wg4 1) fun wb6 =>
          optK (br (!wb6)
              (some (bv true))
              (br (decide (wn5 > 59))
                (some (bv true))
                (br (t28 == 0)
                  (some (bv (decide (wn5 > 23))))
                  (some (bv false))))) fun wv7 =>
          Ab.asBool wv7 fun wb8 =>
          br wb8
            (d (.x0 0 false n7 obj0))
            (r (.s0 (w64 (w64 (n7 * 60) + wn5)) t27 (w64 (t28 + 1)) obj0)))
          (none))
        (none))
      (d (.x1 n7 obj0))
theorem rounddate_clock_0 (K : PureK) (ldate_clock_strings_genSplit_0 : Sdate_clock_strings_genSplit_0 → Option Odate_clock_strings_genSplit_0) {β : Type} (r : Env → Heap → Option β) (k : Ex → Env → Heap → Option β) (s : Sdate_clock_0) : tellOne (addLp (withInl X [20, 45]) 45 11 (Fdate_clock_strings_genSplit_0 ldate_clock_strings_genSplit_0)) K 0 23 0 [(1, 1, 0), (2, 1, 0), (3, 1, 0)] 1 cldate_clock_0 clodate_clock_0 r k (Edate_clock_0 s) (Hdate_clock_0 s) = Rdate_clock_0 K (Tdate_clock_0 k) (fun s => r (Edate_clock_0 s) (Hdate_clock_0 s)) s := by
  cases s <;> kernel_rfl
theorem Odate_clock_0.bind_k {β γ : Type} (o : Odate_clock_0) (c0 : Int → Bool → Int → (List AV) → Option β) (c1 : Int → (List AV) → Option β) (φ : β → Option γ) : (Odate_clock_0.k o c0 c1).bind φ = Odate_clock_0.k o (fun t4 t5 n7 obj0 => (c0 t4 t5 n7 obj0).bind φ) (fun n7 obj0 => (c1 n7 obj0).bind φ) := by cases o <;> rfl
theorem natdate_clock_0 (K : PureK) {β γ : Type} (φ : β → Option γ) (d : Odate_clock_0 → Option β) (r : Sdate_clock_0 → Option β) (s : Sdate_clock_0) : Rdate_clock_0 K (fun o => (d o).bind φ) (fun s => (r s).bind φ) s = (Rdate_clock_0 K d r s).bind φ := by
  cases s <;> simp only [Rdate_clock_0, bind_optK, bind_br, bind_asInt, bind_asBool, bind_asStr, bind_asLst, bind_asAgg, bind_asTup, bind_asBig, bind_asErr, bind_none]
theorem outdate_clock_0 (o : Odate_clock_0) : ∃ x e' h', ∀ {β : Type} (k : Ex → Env → Heap → Option β), Tdate_clock_0 k o = k x e' h' := by cases o <;> exact ⟨_, _, _, fun _ => rfl⟩
theorem okdate_clock_0 {K : PureK} (ldate_clock_strings_genSplit_0 : Sdate_clock_strings_genSplit_0 → Option Odate_clock_strings_genSplit_0) (hX : Sound (addLp (withInl X [20, 45]) 45 11 (Fdate_clock_strings_genSplit_0 ldate_clock_strings_genSplit_0))) (hK : KOk X K) {ldate_clock_0 : Sdate_clock_0 → Option Odate_clock_0} (hl : ∀ s o, ldate_clock_0 s = some o → ∃ m, fuelRec (Rdate_clock_0 K some) m s = some o) (β : Type) (e : Env) (h : Heap) (k : Ex → Env → Heap → Option β) (r : β) (hr : (Fdate_clock_0 ldate_clock_0).run e h k = some r) : ∃ x e' h', k x e' h' = some r ∧ CodeAt (addLp (withInl X [20, 45]) 45 11 (Fdate_clock_strings_genSplit_0 ldate_clock_strings_genSplit_0)) (.loop (loopBody ((addLp (withInl X [20, 45]) 45 11 (Fdate_clock_strings_genSplit_0 ldate_clock_strings_genSplit_0))).P 23 0)) e h x e' h' := by
  obtain ⟨fn, c, hin⟩ := loopIn_of (X := (addLp (withInl X [20, 45]) 45 11 (Fdate_clock_strings_genSplit_0 ldate_clock_strings_genSplit_0))) (f := 23) (i := 0) (key := 8) (by kernel_rfl)
  simp only [Fdate_clock_0] at hr
  split at hr
  · rename_i hlen
    have hlen := Nat.eq_of_beq_eq_true hlen
    split at hr
    · rename_i q7 q26 q27 q28
      obtain ⟨o, ho, hr⟩ := optK_some hr
      refine tell_ok hX (KOk.congr (X := X) (Y := (addLp (withInl X [20, 45]) 45 11 (Fdate_clock_strings_genSplit_0 ldate_clock_strings_genSplit_0))) rfl rfl hK) hin (E := Edate_clock_0) (H := Hdate_clock_0) (R := fun d r => Rdate_clock_0 K d r) (T := Tdate_clock_0) (ts := [(1, 1, 0), (2, 1, 0), (3, 1, 0)]) (len := 1) (cl := cldate_clock_0) (clo := clodate_clock_0) (rounddate_clock_0 K ldate_clock_strings_genSplit_0) (natdate_clock_0 K) outdate_clock_0 (hl _ _ ho) (cl0 := cldate_clock_0) (ts0 := []) ?_ rfl (by kernel_rfl) (by kernel_rfl) hr
      rw [clear_lit e 58 hlen, show clearEnv cldate_clock_0 ((List.range 58).map fun i => e.getD i .dead) = [.dead, .dead, .dead, .dead, .dead, .dead, .dead, e.getD 7 .dead, .dead, .dead, .dead, .dead, .dead, .dead, .dead, .dead, .dead, .dead, .dead, .dead, .dead, .dead, .dead, .dead, .dead, .dead, e.getD 26 .dead, e.getD 27 .dead, e.getD 28 .dead, .dead, .dead, .dead, .dead, .dead, .dead, .dead, .dead, .dead, .dead, .dead, .dead, .dead, .dead, .dead, .dead, .dead, .dead, .dead, .dead, .dead, .dead, .dead, .dead, .dead, .dead, .dead, .dead, .dead] from by kernel_rfl]; rw [q7, q26, q27, q28]
      kernel_rfl
    · cases hr
  · cases hr
inductive Sdate_clock_0b where
  | s0 (n7 : Int) (t26l : Nat) (t27 : Int) (t28 : Int) (obj0 : List AV)

inductive Odate_clock_0b where
  | x0 (t4 : Int) (t5 : Bool) (n7 : Int) (obj0 : List AV)
  | x1 (n7 : Int) (obj0 : List AV)

def Odate_clock_0b.k {β : Type} (o : Odate_clock_0b) (c0 : Int → Bool → Int → (List AV) → Option β) (c1 : Int → (List AV) → Option β) : Option β := match o with
  | .x0 t4 t5 n7 obj0 => c0 t4 t5 n7 obj0
  | .x1 n7 obj0 => c1 n7 obj0

def Edate_clock_0b : Sdate_clock_0b → Env
  | .s0 n7 t26l t27 t28 obj0 => [.dead, .dead, .dead, .dead, .dead, .dead, .dead, (.v (.int .i64 n7)), .dead, .dead, .dead, .dead, .dead, .dead, .dead, .dead, .dead, .dead, .dead, .dead, .dead, .dead, .dead, .dead, .dead, .dead, (.own 0 0 0 (some t26l)), (.v (.int .i64 t27)), (.v (.int .i64 t28)), .dead, .dead, .dead, .dead, .dead, .dead, .dead, .dead, .dead, .dead, .dead, .dead, .dead, .dead, .dead, .dead, .dead, .dead, .dead, .dead, .dead, .dead, .dead, .dead, .dead, .dead, .dead, .dead, .dead]

def Hdate_clock_0b : Sdate_clock_0b → Heap
  | .s0 n7 t26l t27 t28 obj0 => [⟨obj0, 0, 0, true, false, 9, 1, none⟩]

def Tdate_clock_0b {β : Type} (k : Ex → Env → Heap → Option β) (o : Odate_clock_0b) : Option β := Odate_clock_0b.k o (fun t4 t5 n7 obj0 => k .ret [.dead, .dead, .dead, .dead, (.v (.int .i64 t4)), (.v (.bool t5)), .dead, (.v (.int .i64 n7)), .dead, .dead, .dead, .dead, .dead, .dead, .dead, .dead, .dead, .dead, .dead, .dead, .dead, .dead, .dead, .dead, .dead, .dead, .dead, .dead, .dead, .dead, .dead, .dead, .dead, .dead, .dead, .dead, .dead, .dead, .dead, .dead, .dead, .dead, .dead, .dead, .dead, .dead, .dead, .dead, .dead, .dead, .dead, .dead, .dead, .dead, .dead, .dead, .dead, .dead] [⟨obj0, 0, 0, true, false, 9, 1, none⟩]) (fun n7 obj0 => k (.exit 0) [.dead, .dead, .dead, .dead, .dead, .dead, .dead, (.v (.int .i64 n7)), .dead, .dead, .dead, .dead, .dead, .dead, .dead, .dead, .dead, .dead, .dead, .dead, .dead, .dead, .dead, .dead, .dead, .dead, .dead, .dead, .dead, .dead, .dead, .dead, .dead, .dead, .dead, .dead, .dead, .dead, .dead, .dead, .dead, .dead, .dead, .dead, .dead, .dead, .dead, .dead, .dead, .dead, .dead, .dead, .dead, .dead, .dead, .dead, .dead, .dead] [⟨obj0, 0, 0, true, false, 9, 1, none⟩])

def Fdate_clock_0b (ldate_clock_0 : Sdate_clock_0 → Option Odate_clock_0) (ldate_clock_0b : Sdate_clock_0b → Option Odate_clock_0b) : LoopF := ⟨fun e h k => match Nat.beq e.length 58 with
  | true => (match e.getD 7 .dead, e.getD 26 .dead, e.getD 27 .dead, e.getD 28 .dead, h with
    | (.v (.int .i64 n7)), (.own 0 0 0 (some t26l)), (.v (.int .i64 t27)), (.v (.int .i64 t28)), [⟨obj0, 0, 0, true, false, 9, 1, none⟩] => optK (ldate_clock_0b (.s0 n7 t26l t27 t28 obj0)) (Tdate_clock_0b k)
    | _, _, _, _, _ => (Fdate_clock_0 ldate_clock_0).run e h k)
  | false => (Fdate_clock_0 ldate_clock_0).run e h k⟩

def cldate_clock_0b : List Tmp := [0, 1, 2, 3, 4, 5, 6, 8, 9, 10, 11, 12, 13, 14, 15, 16, 17, 18, 19, 20, 21, 22, 23, 24, 25, 29, 30, 31, 32, 33, 34, 35, 36, 37, 38, 39, 40, 41, 42, 43, 44, 45, 46, 47, 48, 49, 50, 51, 52, 53, 54, 55, 56, 57]
def clodate_clock_0b : List Tmp := [0, 1, 2, 3, 6, 8, 9, 10, 11, 12, 13, 14, 15, 16, 17, 18, 19, 20, 21, 22, 23, 24, 25, 26, 27, 28, 29, 30, 31, 32, 33, 34, 35, 36, 37, 38, 39, 40, 41, 42, 43, 44, 45, 46, 47, 48, 49, 50, 51, 52, 53, 54, 55, 56, 57]

noncomputable def Rdate_clock_0b {β : Type} (K : PureK) (d : Odate_clock_0b → Option β) (r : Sdate_clock_0b → Option β) : Sdate_clock_0b → Option β
  | .s0 n7 t26l t27 t28 obj0 =>
    br (decide (t28 < t27))
      (br (decide (0 ≤ t28))
        (br (decide (t28 < ((t26l : Nat) : Int)))
          (optK (obj0[0 + t28.toNat]?) fun wv1 =>
          Ab.asStr wv1 fun ws2 =>
          optK (K f_date_number [sv ws2, iv 2, iv 2]) fun wv3 =>
          Ab.asTup wv3 2 fun wg4 =>
          Ab.asInt (wg4 0) .i64 fun wn5 =>
          Ab.asBool (wg4 1) fun wb6 =>
          optK (br (!wb6)
              (some (bv true))
              (br (decide (wn5 > 59))
                (some (bv true))
                (br (t28 == 0)
                  (some (bv (decide (wn5 > 23))))
                  (some (bv false))))) fun wv7 =>
          Ab.asBool wv7 fun wb8 =>
          br wb8
            (d (.x0 0 false n7 obj0))
            (r (.s0 (w64 (w64 (n7 * 60) + wn5)) t26l t27 (w64 (t28 + 1)) obj0)))
          (none))
        (none))
      (d (.x1 n7 obj0))
theorem rounddate_clock_0b (K : PureK) (ldate_clock_strings_genSplit_0 : Sdate_clock_strings_genSplit_0 → Option Odate_clock_strings_genSplit_0) (ldate_clock_0 : Sdate_clock_0 → Option Odate_clock_0) {β : Type} (r : Env → Heap → Option β) (k : Ex → Env → Heap → Option β) (s : Sdate_clock_0b) : tellOne (addLp (addLp (withInl X [20, 45]) 45 11 (Fdate_clock_strings_genSplit_0 ldate_clock_strings_genSplit_0)) 23 8 (Fdate_clock_0 ldate_clock_0)) K 0 23 0 [(1, 1, 0), (2, 1, 0), (3, 1, 0)] 1 cldate_clock_0b clodate_clock_0b r k (Edate_clock_0b s) (Hdate_clock_0b s) = Rdate_clock_0b K (Tdate_clock_0b k) (fun s => r (Edate_clock_0b s) (Hdate_clock_0b s)) s := by
  cases s <;> kernel_rfl
theorem Odate_clock_0b.bind_k {β γ : Type} (o : Odate_clock_0b) (c0 : Int → Bool → Int → (List AV) → Option β) (c1 : Int → (List AV) → Option β) (φ : β → Option γ) : (Odate_clock_0b.k o c0 c1).bind φ = Odate_clock_0b.k o (fun t4 t5 n7 obj0 => (c0 t4 t5 n7 obj0).bind φ) (fun n7 obj0 => (c1 n7 obj0).bind φ) := by cases o <;> rfl
theorem natdate_clock_0b (K : PureK) {β γ : Type} (φ : β → Option γ) (d : Odate_clock_0b → Option β) (r : Sdate_clock_0b → Option β) (s : Sdate_clock_0b) : Rdate_clock_0b K (fun o => (d o).bind φ) (fun s => (r s).bind φ) s = (Rdate_clock_0b K d r s).bind φ := by
  cases s <;> simp only [Rdate_clock_0b, bind_optK, bind_br, bind_asInt, bind_asBool, bind_asStr, bind_asLst, bind_asAgg, bind_asTup, bind_asBig, bind_asErr, bind_none]
theorem outdate_clock_0b (o : Odate_clock_0b) : ∃ x e' h', ∀ {β : Type} (k : Ex → Env → Heap → Option β), Tdate_clock_0b k o = k x e' h' := by cases o <;> exact ⟨_, _, _, fun _ => rfl⟩
theorem okdate_clock_0b {K : PureK} (ldate_clock_strings_genSplit_0 : Sdate_clock_strings_genSplit_0 → Option Odate_clock_strings_genSplit_0) (ldate_clock_0 : Sdate_clock_0 → Option Odate_clock_0) (hX : Sound (addLp (addLp (withInl X [20, 45]) 45 11 (Fdate_clock_strings_genSplit_0 ldate_clock_strings_genSplit_0)) 23 8 (Fdate_clock_0 ldate_clock_0))) (hK : KOk X K) {ldate_clock_0b : Sdate_clock_0b → Option Odate_clock_0b} (hl : ∀ s o, ldate_clock_0b s = some o → ∃ m, fuelRec (Rdate_clock_0b K some) m s = some o) (β : Type) (e : Env) (h : Heap) (k : Ex → Env → Heap → Option β) (r : β) (hr : (Fdate_clock_0b ldate_clock_0 ldate_clock_0b).run e h k = some r) : ∃ x e' h', k x e' h' = some r ∧ CodeAt (addLp (addLp (withInl X [20, 45]) 45 11 (Fdate_clock_strings_genSplit_0 ldate_clock_strings_genSplit_0)) 23 8 (Fdate_clock_0 ldate_clock_0)) (.loop (loopBody ((addLp (addLp (withInl X [20, 45]) 45 11 (Fdate_clock_strings_genSplit_0 ldate_clock_strings_genSplit_0)) 23 8 (Fdate_clock_0 ldate_clock_0))).P 23 0)) e h x e' h' := by
  obtain ⟨fn, c, hin⟩ := loopIn_of (X := (addLp (addLp (withInl X [20, 45]) 45 11 (Fdate_clock_strings_genSplit_0 ldate_clock_strings_genSplit_0)) 23 8 (Fdate_clock_0 ldate_clock_0))) (f := 23) (i := 0) (key := 8) (by kernel_rfl)
  simp only [Fdate_clock_0b] at hr
  split at hr
  · rename_i hlen
    have hlen := Nat.eq_of_beq_eq_true hlen
    split at hr
    · rename_i q7 q26 q27 q28
      obtain ⟨o, ho, hr⟩ := optK_some hr
      refine tell_ok hX (KOk.congr (X := X) (Y := (addLp (addLp (withInl X [20, 45]) 45 11 (Fdate_clock_strings_genSplit_0 ldate_clock_strings_genSplit_0)) 23 8 (Fdate_clock_0 ldate_clock_0))) rfl rfl hK) hin (E := Edate_clock_0b) (H := Hdate_clock_0b) (R := fun d r => Rdate_clock_0b K d r) (T := Tdate_clock_0b) (ts := [(1, 1, 0), (2, 1, 0), (3, 1, 0)]) (len := 1) (cl := cldate_clock_0b) (clo := clodate_clock_0b) (rounddate_clock_0b K ldate_clock_strings_genSplit_0 ldate_clock_0) (natdate_clock_0b K) outdate_clock_0b (hl _ _ ho) (cl0 := cldate_clock_0b) (ts0 := []) ?_ rfl (by kernel_rfl) (by kernel_rfl) hr
      rw [clear_lit e 58 hlen, show clearEnv cldate_clock_0b ((List.range 58).map fun i => e.getD i .dead) = [.dead, .dead, .dead, .dead, .dead, .dead, .dead, e.getD 7 .dead, .dead, .dead, .dead, .dead, .dead, .dead, .dead, .dead, .dead, .dead, .dead, .dead, .dead, .dead, .dead, .dead, .dead, .dead, e.getD 26 .dead, e.getD 27 .dead, e.getD 28 .dead, .dead, .dead, .dead, .dead, .dead, .dead, .dead, .dead, .dead, .dead, .dead, .dead, .dead, .dead, .dead, .dead, .dead, .dead, .dead, .dead, .dead, .dead, .dead, .dead, .dead, .dead, .dead, .dead, .dead] from by kernel_rfl]; rw [q7, q26, q27, q28]
      kernel_rfl
    · exact hX.lp 23 fn c hin.hok hin.hfn hin.hbody _ (List.mem_of_getElem? hin.code) (Fdate_clock_0 ldate_clock_0) (by kernel_rfl) β _ _ k r hr
  · exact hX.lp 23 fn c hin.hok hin.hfn hin.hbody _ (List.mem_of_getElem? hin.code) (Fdate_clock_0 ldate_clock_0) (by kernel_rfl) β _ _ k r hr
noncomputable def Rdate_clock (K : PureK) (ldate_clock_strings_genSplit_0 : Sdate_clock_strings_genSplit_0 → Option Odate_clock_strings_genSplit_0) (ldate_clock_0 : Sdate_clock_0 → Option Odate_clock_0) (ldate_clock_0b : Sdate_clock_0b → Option Odate_clock_0b) (s0 : ByteArray) (short1 : Bool) : Option AV :=
  optK (K f_strings_Count [sv s0, sv ({ data := #[58] } : ByteArray)]) fun wv18 =>
    Ab.asInt wv18 .i64 fun wn19 =>
    br (decide (0 ≤ if w64 (((s0.size : Nat) : Int) + 1) < w64 (wn19 + 1) then w64 (((s0.size : Nat) : Int) + 1) else w64 (wn19 + 1)))
      (br (decide ((if w64 (((s0.size : Nat) : Int) + 1) < w64 (wn19 + 1) then w64 (((s0.size : Nat) : Int) + 1) else w64 (wn19 + 1)) ≤ if w64 (((s0.size : Nat) : Int) + 1) < w64 (wn19 + 1) then w64 (((s0.size : Nat) : Int) + 1) else w64 (wn19 + 1)))
        (br (lenOk (if w64 (((s0.size : Nat) : Int) + 1) < w64 (wn19 + 1) then w64 (((s0.size : Nat) : Int) + 1) else w64 (wn19 + 1)).toNat 16 && lenOk (if w64 (((s0.size : Nat) : Int) + 1) < w64 (wn19 + 1) then w64 (((s0.size : Nat) : Int) + 1) else w64 (wn19 + 1)).toNat 1)
          (optK (ldate_clock_strings_genSplit_0 (Sdate_clock_strings_genSplit_0.s0 s0 ({ data := #[58] } : ByteArray) 0 (w64 ((if w64 (((s0.size : Nat) : Int) + 1) < w64 (wn19 + 1) then w64 (((s0.size : Nat) : Int) + 1) else w64 (wn19 + 1)) - 1)) 0 (List.replicate (if w64 (((s0.size : Nat) : Int) + 1) < w64 (wn19 + 1) then w64 (((s0.size : Nat) : Int) + 1) else w64 (wn19 + 1)).toNat (sv ({ data := #[] } : ByteArray))))) fun wo20 => Odate_clock_strings_genSplit_0.k wo20 (fun (s0_21 : ByteArray) (i10_21 : Int) (obj0_21 : List AV) =>
          br (decide (0 ≤ i10_21))
            (br (decide (i10_21 < ((obj0_21.length : Nat) : Int)))
              (br (decide (0 ≤ w64 (i10_21 + 1)))
                (br (decide (w64 (i10_21 + 1) ≤ (((obj0_21.set (0 + i10_21.toNat) (sv s0_21)).length : Nat) : Int)))
                  (optK (br short1
                      (some (bv ((((w64 (i10_21 + 1)).toNat : Nat) : Int) == 2)))
                      (some (bv false))) fun wv22 =>
                  Ab.asBool wv22 fun wb23 =>
                  br wb23
                    (br (true && (w64 (i10_21 + 1)).toNat.ble (obj0_21.set (0 + i10_21.toNat) (sv s0_21)).length)
                      (br (lenOk ((List.take (w64 (i10_21 + 1)).toNat (obj0_21.set (0 + i10_21.toNat) (sv s0_21))).length + 1) 16 && lenOk ((List.take (w64 (i10_21 + 1)).toNat (obj0_21.set (0 + i10_21.toNat) (sv s0_21))).length + 1) 1)
                        (br ((((List.take (w64 (i10_21 + 1)).toNat (obj0_21.set (0 + i10_21.toNat) (sv s0_21)) ++ [sv ({ data := #[48, 48] } : ByteArray)]).length : Nat) : Int) != 3)
                          (some (AV.tup [iv 0, bv false]))
                          (optK (ldate_clock_0 (Sdate_clock_0.s0 0 ((((List.take (w64 (i10_21 + 1)).toNat (obj0_21.set (0 + i10_21.toNat) (sv s0_21)) ++ [sv ({ data := #[48, 48] } : ByteArray)]).length : Nat) : Int)) 0 (List.take (w64 (i10_21 + 1)).toNat (obj0_21.set (0 + i10_21.toNat) (sv s0_21)) ++ [sv ({ data := #[48, 48] } : ByteArray)]))) fun wo24 => Odate_clock_0.k wo24
                            (fun (t4_25 : Int) (t5_25 : Bool) (n7_25 : Int) (obj0_25 : List AV) => some (AV.tup [iv t4_25, bv t5_25]))
                            (fun (n7_26 : Int) (obj0_26 : List AV) => some (AV.tup [iv n7_26, bv true]))))
                        (none))
                      (none))
                    (br ((((w64 (i10_21 + 1)).toNat : Nat) : Int) != 3)
                      (some (AV.tup [iv 0, bv false]))
                      (optK (ldate_clock_0b (Sdate_clock_0b.s0 0 (w64 (i10_21 + 1)).toNat ((((w64 (i10_21 + 1)).toNat : Nat) : Int)) 0 (obj0_21.set (0 + i10_21.toNat) (sv s0_21)))) fun wo27 => Odate_clock_0b.k wo27
                        (fun (t4_28 : Int) (t5_28 : Bool) (n7_28 : Int) (obj0_28 : List AV) => some (AV.tup [iv t4_28, bv t5_28]))
                        (fun (n7_29 : Int) (obj0_29 : List AV) => some (AV.tup [iv n7_29, bv true])))))
                  (none))
                (none))
              (none))
            (none)))
          (none))
        (none))
      (none)
theorem topdate_clock (K : PureK) (ldate_clock_strings_genSplit_0 : Sdate_clock_strings_genSplit_0 → Option Odate_clock_strings_genSplit_0) (ldate_clock_0 : Sdate_clock_0 → Option Odate_clock_0) (ldate_clock_0b : Sdate_clock_0b → Option Odate_clock_0b) (s0 : ByteArray) (short1 : Bool) : topK (addLp (addLp (addLp (withInl X [20, 45]) 45 11 (Fdate_clock_strings_genSplit_0 ldate_clock_strings_genSplit_0)) 23 8 (Fdate_clock_0 ldate_clock_0)) 23 8 (Fdate_clock_0b ldate_clock_0 ldate_clock_0b)) K 0 f_date_clock [(.v (.string s0)), (.v (.bool short1))] = Rdate_clock K ldate_clock_strings_genSplit_0 ldate_clock_0 ldate_clock_0b s0 short1 := by kernel_rfl
theorem pcdate_clock {K : PureK} (hK : KOk X K) {ldate_clock_strings_genSplit_0 : Sdate_clock_strings_genSplit_0 → Option Odate_clock_strings_genSplit_0} {ldate_clock_0 : Sdate_clock_0 → Option Odate_clock_0} {ldate_clock_0b : Sdate_clock_0b → Option Odate_clock_0b} (hdate_clock_strings_genSplit_0 : ∀ s o, ldate_clock_strings_genSplit_0 s = some o → ∃ m, fuelRec (Rdate_clock_strings_genSplit_0 K some) m s = some o) (hdate_clock_0 : ∀ s o, ldate_clock_0 s = some o → ∃ m, fuelRec (Rdate_clock_0 K some) m s = some o) (hdate_clock_0b : ∀ s o, ldate_clock_0b s = some o → ∃ m, fuelRec (Rdate_clock_0b K some) m s = some o) {s0 : ByteArray} {short1 : Bool} {v : AV} (h : Rdate_clock K ldate_clock_strings_genSplit_0 ldate_clock_0 ldate_clock_0b s0 short1 = some v) : PureCall X f_date_clock [(.v (.string s0)), (.v (.bool short1))] v := by
  have hSo0 := (sound_inl soundX [20, 45])
  obtain ⟨_, _, hin0⟩ := loopIn_of (X := (withInl X [20, 45])) (f := 45) (i := 0) (key := 11) (by kernel_rfl)
  have hSo1 := sound_add hSo0 hin0 (okdate_clock_strings_genSplit_0 hSo0 hK hdate_clock_strings_genSplit_0)
  obtain ⟨_, _, hin1⟩ := loopIn_of (X := (addLp (withInl X [20, 45]) 45 11 (Fdate_clock_strings_genSplit_0 ldate_clock_strings_genSplit_0))) (f := 23) (i := 0) (key := 8) (by kernel_rfl)
  have hSo2 := sound_add hSo1 hin1 (okdate_clock_0 ldate_clock_strings_genSplit_0 hSo1 hK hdate_clock_0)
  obtain ⟨_, _, hin2⟩ := loopIn_of (X := (addLp (addLp (withInl X [20, 45]) 45 11 (Fdate_clock_strings_genSplit_0 ldate_clock_strings_genSplit_0)) 23 8 (Fdate_clock_0 ldate_clock_0))) (f := 23) (i := 0) (key := 8) (by kernel_rfl)
  have hSo3 := sound_add hSo2 hin2 (okdate_clock_0b ldate_clock_strings_genSplit_0 ldate_clock_0 hSo2 hK hdate_clock_0b)
  exact tell_top (X := X) (Y := (addLp (addLp (addLp (withInl X [20, 45]) 45 11 (Fdate_clock_strings_genSplit_0 ldate_clock_strings_genSplit_0)) 23 8 (Fdate_clock_0 ldate_clock_0)) 23 8 (Fdate_clock_0b ldate_clock_0 ldate_clock_0b))) rfl rfl hSo3 hK ((topdate_clock K ldate_clock_strings_genSplit_0 ldate_clock_0 ldate_clock_0b s0 short1).trans h)


/-! 8: escheat/date.Short -/
noncomputable def Rdate_Short (K : PureK) (s0 : ByteArray) : Option AV :=
  optK (K f_strings_Split [sv s0, sv ({ data := #[45] } : ByteArray)]) fun wv1 =>
    Ab.asLst wv1 1 fun wb2 wr2 =>
    br (((wr2.length : Nat) : Int) != 3)
      (some (AV.tup [iv 0, iv 3]))
      (br (decide (0 < ((wr2.length : Nat) : Int)))
        (optK wr2[0]? fun wv3 =>
        Ab.asStr wv3 fun ws4 =>
        br (decide (1 < ((wr2.length : Nat) : Int)))
          (optK wr2[1]? fun wv5 =>
          Ab.asStr wv5 fun ws6 =>
          br (decide (2 < ((wr2.length : Nat) : Int)))
            (optK wr2[2]? fun wv7 =>
            Ab.asStr wv7 fun ws8 =>
            optK (K f_date_calendar [sv ws4, sv ws6, sv ws8]) fun wv9 =>
            Ab.asTup wv9 2 fun wg10 =>
            Ab.asInt (wg10 0) .i64 fun wn11 =>
            Ab.asBool (wg10 1) fun wb12 =>
            optK (br (!wb12)
                (some (bv true))
                (some (bv (decide (wn11 < 0))))) fun wv13 =>
            Ab.asBool wv13 fun wb14 =>
            br wb14
              (some (AV.tup [iv 0, iv 3]))
              (some (AV.tup [iv wn11, iv 0])))
            (none))
          (none))
        (none))
theorem topdate_Short (K : PureK) (s0 : ByteArray) : topK X K 0 f_date_Short [(.v (.string s0))] = Rdate_Short K s0 := by kernel_rfl
theorem pcdate_Short {K : PureK} (hK : KOk X K) {s0 : ByteArray} {v : AV} (h : Rdate_Short K s0 = some v) : PureCall X f_date_Short [(.v (.string s0))] v := by
  have hSo0 := soundX
  exact tell_top (X := X) (Y := X) rfl rfl hSo0 hK ((topdate_Short K s0).trans h)

/-! 10: escheat/date.Mail -/
noncomputable def Rdate_Mail (K : PureK) (s0 : ByteArray) : Option AV :=
  br (decide (((s0.size : Nat) : Int) > 200))
      (some (AV.tup [iv 0, iv 3]))
      (optK (K f_strings_FieldsFunc [sv s0, AV.fn (Fn.func 30) [] []]) fun wv1 =>
      Ab.asLst wv1 1 fun wb2 wr2 =>
      optK (br (decide (((wr2.length : Nat) : Int) > 0))
          (br (decide (0 < ((wr2.length : Nat) : Int)))
            (optK wr2[0]? fun wv4 =>
            Ab.asStr wv4 fun ws5 =>
            optK (K f_date_week [sv ws5]) fun wv6 =>
            Ab.asBool wv6 fun wb7 =>
            some (bv wb7))
            (none))
          (some (bv false))) fun wv3 =>
      Ab.asBool wv3 fun wb8 =>
      br wb8
        (br (decide (1 ≤ ((wr2.length : Nat) : Int)))
          (optK (br ((((List.drop 1 wr2).length : Nat) : Int) == 6)
              (br (decide (5 < (((List.drop 1 wr2).length : Nat) : Int)))
                (optK ((List.drop 1 wr2)[5]?) fun wv10 =>
                Ab.asStr wv10 fun ws11 =>
                br (decide (((ws11.size : Nat) : Int) ≥ 2))
                  (br (decide (5 < (((List.drop 1 wr2).length : Nat) : Int)))
                    (optK ((List.drop 1 wr2)[5]?) fun wv12 =>
                    Ab.asStr wv12 fun ws13 =>
                    optK (K f_strings_HasPrefix [sv ws13, sv ({ data := #[40] } : ByteArray)]) fun wv14 =>
                    Ab.asBool wv14 fun wb15 =>
                    br wb15
                      (br (decide (5 < (((List.drop 1 wr2).length : Nat) : Int)))
                        (optK ((List.drop 1 wr2)[5]?) fun wv16 =>
                        Ab.asStr wv16 fun ws17 =>
                        optK (K f_strings_HasSuffix [sv ws17, sv ({ data := #[41] } : ByteArray)]) fun wv18 =>
                        Ab.asBool wv18 fun wb19 =>
                        some (bv wb19))
                        (none))
                      (some (bv false)))
                    (none))
                  (some (bv false)))
                (none))
              (some (bv false))) fun wv9 =>
          Ab.asBool wv9 fun wb20 =>
          br wb20
            (br (decide (5 ≤ (((List.drop 1 wr2).length : Nat) : Int)))
              (br ((((List.take 5 (List.drop 1 wr2)).length : Nat) : Int) != 5)
                (some (AV.tup [iv 0, iv 3]))
                (br (decide (0 < (((List.take 5 (List.drop 1 wr2)).length : Nat) : Int)))
                  (optK ((List.take 5 (List.drop 1 wr2))[0]?) fun wv21 =>
                  Ab.asStr wv21 fun ws22 =>
                  br (decide (1 < (((List.take 5 (List.drop 1 wr2)).length : Nat) : Int)))
                    (optK ((List.take 5 (List.drop 1 wr2))[1]?) fun wv23 =>
                    Ab.asStr wv23 fun ws24 =>
                    br (decide (2 < (((List.take 5 (List.drop 1 wr2)).length : Nat) : Int)))
                      (optK ((List.take 5 (List.drop 1 wr2))[2]?) fun wv25 =>
                      Ab.asStr wv25 fun ws26 =>
                      optK (K f_date_calendar [sv ws22, sv ws24, sv ws26]) fun wv27 =>
                      Ab.asTup wv27 2 fun wg28 =>
                      Ab.asInt (wg28 0) .i64 fun wn29 =>
                      Ab.asBool (wg28 1) fun wb30 =>
                      br (decide (3 < (((List.take 5 (List.drop 1 wr2)).length : Nat) : Int)))
                        (optK ((List.take 5 (List.drop 1 wr2))[3]?) fun wv31 =>
                        Ab.asStr wv31 fun ws32 =>
                        optK (K f_date_clock [sv ws32, bv true]) fun wv33 =>
                        Ab.asTup wv33 2 fun wg34 =>
                        Ab.asInt (wg34 0) .i64 fun wn35 =>
                        Ab.asBool (wg34 1) fun wb36 =>
                        br (decide (4 < (((List.take 5 (List.drop 1 wr2)).length : Nat) : Int)))
                          (optK ((List.take 5 (List.drop 1 wr2))[4]?) fun wv37 =>
                          Ab.asStr wv37 fun ws38 =>
                          optK (K f_date_zone [sv ws38]) fun wv39 =>
                          Ab.asTup wv39 2 fun wg40 =>
                          Ab.asInt (wg40 0) .i64 fun wn41 =>
                          Ab.asBool (wg40 1) fun wb42 =>
                          optK (br (!wb30)
                              (some (bv true))
                              (br (!wb36)
                                (some (bv true))
                                (some (bv !wb42)))) fun wv43 =>
                          Ab.asBool wv43 fun wb44 =>
                          br wb44
                            (some (AV.tup [iv 0, iv 3]))
                            (br (decide (wn29 < 0))
                              (some (AV.tup [iv 0, iv 15]))
                              (some (AV.tup [iv wn29, iv 0]))))
                          (none))
                        (none))
                      (none))
                    (none))
                  (none)))
              (none))
            (br ((((List.drop 1 wr2).length : Nat) : Int) != 5)
              (some (AV.tup [iv 0, iv 3]))
              (br (decide (0 < (((List.drop 1 wr2).length : Nat) : Int)))
                (optK ((List.drop 1 wr2)[0]?) fun wv45 =>
                Ab.asStr wv45 fun ws46 =>
                br (decide (1 < (((List.drop 1 wr2).length : Nat) : Int)))
                  (optK ((List.drop 1 wr2)[1]?) fun wv47 =>
                  Ab.asStr wv47 fun ws48 =>
                  br (decide (2 < (((List.drop 1 wr2).length : Nat) : Int)))
                    (optK ((List.drop 1 wr2)[2]?) fun wv49 =>
                    Ab.asStr wv49 fun ws50 =>
                    optK (K f_date_calendar [sv ws46, sv ws48, sv ws50]) fun wv51 =>
                    Ab.asTup wv51 2 fun wg52 =>
                    Ab.asInt (wg52 0) .i64 fun wn53 =>
                    Ab.asBool (wg52 1) fun wb54 =>
                    br (decide (3 < (((List.drop 1 wr2).length : Nat) : Int)))
                      (optK ((List.drop 1 wr2)[3]?) fun wv55 =>
                      Ab.asStr wv55 fun ws56 =>
                      optK (K f_date_clock [sv ws56, bv true]) fun wv57 =>
                      Ab.asTup wv57 2 fun wg58 =>
                      Ab.asInt (wg58 0) .i64 fun wn59 =>
                      Ab.asBool (wg58 1) fun wb60 =>
                      br (decide (4 < (((List.drop 1 wr2).length : Nat) : Int)))
                        (optK ((List.drop 1 wr2)[4]?) fun wv61 =>
                        Ab.asStr wv61 fun ws62 =>
                        optK (K f_date_zone [sv ws62]) fun wv63 =>
                        Ab.asTup wv63 2 fun wg64 =>
                        Ab.asInt (wg64 0) .i64 fun wn65 =>
                        Ab.asBool (wg64 1) fun wb66 =>
                        optK (br (!wb54)
                            (some (bv true))
                            (br (!wb60)
                              (some (bv true))
                              (some (bv !wb66)))) fun wv67 =>
                        Ab.asBool wv67 fun wb68 =>
                        br wb68
                          (some (AV.tup [iv 0, iv 3]))
                          (br (decide (wn53 < 0))
                            (some (AV.tup [iv 0, iv 15]))
                            (some (AV.tup [iv wn53, iv 0]))))
                        (none))
                      (none))
                    (none))
                  (none))
                (none))))
          (none))
        (optK (br (((wr2.length : Nat) : Int) == 6)
            (br (decide (5 < ((wr2.length : Nat) : Int)))
              (optK wr2[5]? fun wv70 =>
              Ab.asStr wv70 fun ws71 =>
              br (decide (((ws71.size : Nat) : Int) ≥ 2))
                (br (decide (5 < ((wr2.length : Nat) : Int)))
                  (optK wr2[5]? fun wv72 =>
                  Ab.asStr wv72 fun ws73 =>
                  optK (K f_strings_HasPrefix [sv ws73, sv ({ data := #[40] } : ByteArray)]) fun wv74 =>
                  Ab.asBool wv74 fun wb75 =>
                  br wb75
                    (br (decide (5 < ((wr2.length : Nat) : Int)))
                      (optK wr2[5]? fun wv76 =>
                      Ab.asStr wv76 fun ws77 =>
                      optK (K f_strings_HasSuffix [sv ws77, sv ({ data := #[41] } : ByteArray)]) fun wv78 =>
                      Ab.asBool wv78 fun wb79 =>
                      some (bv wb79))
                      (none))
                    (some (bv false)))
                  (none))
                (some (bv false)))
              (none))
            (some (bv false))) fun wv69 =>
        Ab.asBool wv69 fun wb80 =>
        br wb80
          (br (decide (5 ≤ ((wr2.length : Nat) : Int)))
            (br ((((List.take 5 wr2).length : Nat) : Int) != 5)
              (some (AV.tup [iv 0, iv 3]))
              (br (decide (0 < (((List.take 5 wr2).length : Nat) : Int)))
                (optK ((List.take 5 wr2)[0]?) fun wv81 =>
                Ab.asStr wv81 fun ws82 =>
                br (decide (1 < (((List.take 5 wr2).length : Nat) : Int)))
                  (optK ((List.take 5 wr2)[1]?) fun wv83 =>
                  Ab.asStr wv83 fun ws84 =>
                  br (decide (2 < (((List.take 5 wr2).length : Nat) : Int)))
                    (optK ((List.take 5 wr2)[2]?) fun wv85 =>
                    Ab.asStr wv85 fun ws86 =>
                    optK (K f_date_calendar [sv ws82, sv ws84, sv ws86]) fun wv87 =>
                    Ab.asTup wv87 2 fun wg88 =>
                    Ab.asInt (wg88 0) .i64 fun wn89 =>
                    Ab.asBool (wg88 1) fun wb90 =>
                    br (decide (3 < (((List.take 5 wr2).length : Nat) : Int)))
                      (optK ((List.take 5 wr2)[3]?) fun wv91 =>
                      Ab.asStr wv91 fun ws92 =>
                      optK (K f_date_clock [sv ws92, bv true]) fun wv93 =>
                      Ab.asTup wv93 2 fun wg94 =>
                      Ab.asInt (wg94 0) .i64 fun wn95 =>
                      Ab.asBool (wg94 1) fun wb96 =>
                      br (decide (4 < (((List.take 5 wr2).length : Nat) : Int)))
                        (optK ((List.take 5 wr2)[4]?) fun wv97 =>
                        Ab.asStr wv97 fun ws98 =>
                        optK (K f_date_zone [sv ws98]) fun wv99 =>
                        Ab.asTup wv99 2 fun wg100 =>
                        Ab.asInt (wg100 0) .i64 fun wn101 =>
                        Ab.asBool (wg100 1) fun wb102 =>
                        optK (br (!wb90)
                            (some (bv true))
                            (br (!wb96)
                              (some (bv true))
                              (some (bv !wb102)))) fun wv103 =>
                        Ab.asBool wv103 fun wb104 =>
                        br wb104
                          (some (AV.tup [iv 0, iv 3]))
                          (br (decide (wn89 < 0))
                            (some (AV.tup [iv 0, iv 15]))
                            (some (AV.tup [iv wn89, iv 0]))))
                        (none))
                      (none))
                    (none))
                  (none))
                (none)))
            (none))
          (br (((wr2.length : Nat) : Int) != 5)
            (some (AV.tup [iv 0, iv 3]))
            (br (decide (0 < ((wr2.length : Nat) : Int)))
              (optK wr2[0]? fun wv105 =>
              Ab.asStr wv105 fun ws106 =>
              br (decide (1 < ((wr2.length : Nat) : Int)))
                (optK wr2[1]? fun wv107 =>
                Ab.asStr wv107 fun ws108 =>
                br (decide (2 < ((wr2.length : Nat) : Int)))
                  (optK wr2[2]? fun wv109 =>
                  Ab.asStr wv109 fun ws110 =>
                  optK (K f_date_calendar [sv ws106, sv ws108, sv ws110]) fun wv111 =>
                  Ab.asTup wv111 2 fun wg112 =>
                  Ab.asInt (wg112 0) .i64 fun wn113 =>
                  Ab.asBool (wg112 1) fun wb114 =>
                  br (decide (3 < ((wr2.length : Nat) : Int)))
                    (optK wr2[3]? fun wv115 =>
                    Ab.asStr wv115 fun ws116 =>
                    optK (K f_date_clock [sv ws116, bv true]) fun wv117 =>
                    Ab.asTup wv117 2 fun wg118 =>
                    Ab.asInt (wg118 0) .i64 fun wn119 =>
                    Ab.asBool (wg118 1) fun wb120 =>
                    br (decide (4 < ((wr2.length : Nat) : Int)))
                      (optK wr2[4]? fun wv121 =>
                      Ab.asStr wv121 fun ws122 =>
                      optK (K f_date_zone [sv ws122]) fun wv123 =>
                      Ab.asTup wv123 2 fun wg124 =>
                      Ab.asInt (wg124 0) .i64 fun wn125 =>
                      Ab.asBool (wg124 1) fun wb126 =>
                      optK (br (!wb114)
                          (some (bv true))
                          (br (!wb120)
                            (some (bv true))
                            (some (bv !wb126)))) fun wv127 =>
                      Ab.asBool wv127 fun wb128 =>
                      br wb128
                        (some (AV.tup [iv 0, iv 3]))
                        (br (decide (wn113 < 0))
                          (some (AV.tup [iv 0, iv 15]))
                          (some (AV.tup [iv wn113, iv 0]))))
                      (none))
                    (none))
                  (none))
                (none))
              (none)))))
theorem topdate_Mail (K : PureK) (s0 : ByteArray) : topK X K 0 f_date_Mail [(.v (.string s0))] = Rdate_Mail K s0 := by kernel_rfl
theorem pcdate_Mail {K : PureK} (hK : KOk X K) {s0 : ByteArray} {v : AV} (h : Rdate_Mail K s0 = some v) : PureCall X f_date_Mail [(.v (.string s0))] v := by
  have hSo0 := soundX
  exact tell_top (X := X) (Y := X) rfl rfl hSo0 hK ((topdate_Mail K s0).trans h)

/-! 30: escheat/date.Mail$1 -/
noncomputable def Rdate_Mail_1 (K : PureK) (c0 : Int) : Option AV :=
  optK (br (c0 == 32)
        (some (bv true))
        (some (bv (c0 == 9)))) fun wv1 =>
    Ab.asBool wv1 fun wb2 =>
    some (bv wb2)
theorem topdate_Mail_1 (K : PureK) (c0 : Int) : topK X K 0 f_date_Mail_1 [(.v (.int .i32 c0))] = Rdate_Mail_1 K c0 := by kernel_rfl
theorem pcdate_Mail_1 {K : PureK} (hK : KOk X K) {c0 : Int} {v : AV} (h : Rdate_Mail_1 K c0 = some v) : PureCall X f_date_Mail_1 [(.v (.int .i32 c0))] v := by
  have hSo0 := soundX
  exact tell_top (X := X) (Y := X) rfl rfl hSo0 hK ((topdate_Mail_1 K c0).trans h)

/-! 29: strings.FieldsFunc -/
inductive Sstrings_FieldsFunc_0 where
  | s0 (s0 : ByteArray) (start6 : Int) (obj0 : List AV) (obj1s : ByteArray) (obj1q : Nat)

inductive Ostrings_FieldsFunc_0 where
  | x0 (s0 : ByteArray) (start6 : Int) (obj0 : List AV) (obj1s : ByteArray) (obj1q : Nat)

def Ostrings_FieldsFunc_0.k {β : Type} (o : Ostrings_FieldsFunc_0) (c0 : ByteArray → Int → (List AV) → ByteArray → Nat → Option β) : Option β := match o with
  | .x0 s0 start6 obj0 obj1s obj1q => c0 s0 start6 obj0 obj1s obj1q

def Estrings_FieldsFunc_0 : Sstrings_FieldsFunc_0 → Env
  | .s0 s0 start6 obj0 obj1s obj1q => [(.v (.string s0)), (.fn (.func 30) [] []), .dead, .dead, .dead, (.own 0 1 0 none), (.v (.int .i64 start6)), .dead, .dead, .dead, .dead, .dead, .dead, .dead, (.ptr 1 0 0 0), .dead, .dead, .dead, .dead, .dead, .dead, .dead, .dead, .dead, .dead, .dead, .dead, .dead, .dead, .dead, .dead, .dead, .dead, .dead, .dead, .dead, .dead, .dead, .dead, .dead, .dead, .dead, .dead, .dead, .dead, .dead, .dead, .dead, .dead, .dead, .dead, .dead, .dead, .dead, .dead, .dead, .dead, .dead, .dead, .dead, .dead, .dead, .dead, .dead, .dead]

def Hstrings_FieldsFunc_0 : Sstrings_FieldsFunc_0 → Heap
  | .s0 s0 start6 obj0 obj1s obj1q => [⟨obj0, 1, 0, true, false, 61, 2, none⟩, ⟨[.junk], 0, 0, true, true, 9, 1, (some (obj1s, obj1q))⟩]

def Tstrings_FieldsFunc_0 {β : Type} (k : Ex → Env → Heap → Option β) (o : Ostrings_FieldsFunc_0) : Option β := Ostrings_FieldsFunc_0.k o (fun s0 start6 obj0 obj1s obj1q => k (.exit 0) [(.v (.string s0)), .dead, .dead, .dead, .dead, (.own 0 1 0 none), (.v (.int .i64 start6)), .dead, .dead, .dead, .dead, .dead, .dead, .dead, .dead, .dead, .dead, .dead, .dead, .dead, .dead, .dead, .dead, .dead, .dead, .dead, .dead, .dead, .dead, .dead, .dead, .dead, .dead, .dead, .dead, .dead, .dead, .dead, .dead, .dead, .dead, .dead, .dead, .dead, .dead, .dead, .dead, .dead, .dead, .dead, .dead, .dead, .dead, .dead, .dead, .dead, .dead, .dead, .dead, .dead, .dead, .dead, .dead, .dead, .dead] [⟨obj0, 1, 0, true, false, 61, 2, none⟩, ⟨[.junk], 0, 0, true, true, 9, 1, (some (obj1s, obj1q))⟩])

def Fstrings_FieldsFunc_0 (lstrings_FieldsFunc_0 : Sstrings_FieldsFunc_0 → Option Ostrings_FieldsFunc_0) : LoopF := ⟨fun e h k => match Nat.beq e.length 65 with
  | true => (match e.getD 0 .dead, e.getD 1 .dead, e.getD 5 .dead, e.getD 6 .dead, e.getD 14 .dead, h with
    | (.v (.string s0)), (.fn (.func 30) [] []), (.own 0 0 0 none), (.v (.int .i64 start6)), (.ptr 1 0 0 0), [⟨obj0, 0, 0, true, false, 61, 2, none⟩, ⟨[.junk], 0, 0, true, true, 9, 1, (some (obj1s, obj1q))⟩] => optK (lstrings_FieldsFunc_0 (.s0 s0 start6 obj0 obj1s obj1q)) (Tstrings_FieldsFunc_0 k)
    | _, _, _, _, _, _ => none)
  | false => none⟩

def clstrings_FieldsFunc_0 : List Tmp := [2, 3, 4, 7, 8, 9, 10, 11, 12, 13, 15, 16, 17, 18, 19, 20, 21, 22, 23, 24, 25, 26, 27, 28, 29, 30, 31, 32, 33, 34, 35, 36, 37, 38, 39, 40, 41, 42, 43, 44, 45, 46, 47, 48, 49, 50, 51, 52, 53, 54, 55, 56, 57, 58, 59, 60, 61, 62, 63, 64]
def clostrings_FieldsFunc_0 : List Tmp := [1, 2, 3, 4, 7, 8, 9, 10, 11, 12, 13, 14, 15, 16, 17, 18, 19, 20, 21, 22, 23, 24, 25, 26, 27, 28, 29, 30, 31, 32, 33, 34, 35, 36, 37, 38, 39, 40, 41, 42, 43, 44, 45, 46, 47, 48, 49, 50, 51, 52, 53, 54, 55, 56, 57, 58, 59, 60, 61, 62, 63, 64]

noncomputable def Rstrings_FieldsFunc_0 {β : Type} (K : PureK) (d : Ostrings_FieldsFunc_0 → Option β) (r : Sstrings_FieldsFunc_0 → Option β) : Sstrings_FieldsFunc_0 → Option β
  | .s0 s0 start6 obj0 obj1s obj1q =>
    br (obj1q.blt obj1s.size)
      (optK (K f_date_Mail_1 [rv ((((Utf8.decode obj1s obj1q).fst : Nat) : Int))]) fun wv1 =>
      Ab.asBool wv1 fun wb2 =>
      br wb2
        (br (decide (start6 ≥ 0))
          (br (lenOk (obj0.length + [AV.agg [iv start6, iv (((obj1q : Nat) : Int))]].length) 16 && lenOk (obj0.length + [AV.agg [iv start6, iv (((obj1q : Nat) : Int))]].length) 1)
            (r (.s0 s0 (w64 ((((BitVec.ofInt 64 (-1) ^^^ BitVec.ofInt 64 start6).toNat : Nat) : Int))) (obj0 ++ [AV.agg [iv start6, iv (((obj1q : Nat) : Int))]]) obj1s (obj1q + (Utf8.decode obj1s obj1q).snd)))
            (none))
          (r (.s0 s0 start6 obj0 obj1s (obj1q + (Utf8.decode obj1s obj1q).snd))))
        (br (decide (start6 < 0))
          (r (.s0 s0 (((obj1q : Nat) : Int)) obj0 obj1s (obj1q + (Utf8.decode obj1s obj1q).snd)))
          (r (.s0 s0 start6 obj0 obj1s (obj1q + (Utf8.decode obj1s obj1q).snd)))))
      (d (.x0 s0 start6 obj0 obj1s obj1q))
theorem roundstrings_FieldsFunc_0 (K : PureK) {β : Type} (r : Env → Heap → Option β) (k : Ex → Env → Heap → Option β) (s : Sstrings_FieldsFunc_0) : tellOne X K 0 29 0 [(0, 1, 0), (2, 1, 0), (3, 1, 0), (4, 1, 0)] 2 clstrings_FieldsFunc_0 clostrings_FieldsFunc_0 r k (Estrings_FieldsFunc_0 s) (Hstrings_FieldsFunc_0 s) = Rstrings_FieldsFunc_0 K (Tstrings_FieldsFunc_0 k) (fun s => r (Estrings_FieldsFunc_0 s) (Hstrings_FieldsFunc_0 s)) s := by
  cases s <;> kernel_rfl
theorem Ostrings_FieldsFunc_0.bind_k {β γ : Type} (o : Ostrings_FieldsFunc_0) (c0 : ByteArray → Int → (List AV) → ByteArray → Nat → Option β) (φ : β → Option γ) : (Ostrings_FieldsFunc_0.k o c0).bind φ = Ostrings_FieldsFunc_0.k o (fun s0 start6 obj0 obj1s obj1q => (c0 s0 start6 obj0 obj1s obj1q).bind φ) := by cases o <;> rfl
theorem natstrings_FieldsFunc_0 (K : PureK) {β γ : Type} (φ : β → Option γ) (d : Ostrings_FieldsFunc_0 → Option β) (r : Sstrings_FieldsFunc_0 → Option β) (s : Sstrings_FieldsFunc_0) : Rstrings_FieldsFunc_0 K (fun o => (d o).bind φ) (fun s => (r s).bind φ) s = (Rstrings_FieldsFunc_0 K d r s).bind φ := by
  cases s <;> simp only [Rstrings_FieldsFunc_0, bind_optK, bind_br, bind_asInt, bind_asBool, bind_asStr, bind_asLst, bind_asAgg, bind_asTup, bind_asBig, bind_asErr, bind_none]
theorem outstrings_FieldsFunc_0 (o : Ostrings_FieldsFunc_0) : ∃ x e' h', ∀ {β : Type} (k : Ex → Env → Heap → Option β), Tstrings_FieldsFunc_0 k o = k x e' h' := by cases o <;> exact ⟨_, _, _, fun _ => rfl⟩
theorem okstrings_FieldsFunc_0 {K : PureK} (hX : Sound X) (hK : KOk X K) {lstrings_FieldsFunc_0 : Sstrings_FieldsFunc_0 → Option Ostrings_FieldsFunc_0} (hl : ∀ s o, lstrings_FieldsFunc_0 s = some o → ∃ m, fuelRec (Rstrings_FieldsFunc_0 K some) m s = some o) (β : Type) (e : Env) (h : Heap) (k : Ex → Env → Heap → Option β) (r : β) (hr : (Fstrings_FieldsFunc_0 lstrings_FieldsFunc_0).run e h k = some r) : ∃ x e' h', k x e' h' = some r ∧ CodeAt X (.loop (loopBody (X).P 29 0)) e h x e' h' := by
  obtain ⟨fn, c, hin⟩ := loopIn_of (X := X) (f := 29) (i := 0) (key := 4) (by kernel_rfl)
  simp only [Fstrings_FieldsFunc_0] at hr
  split at hr
  · rename_i hlen
    have hlen := Nat.eq_of_beq_eq_true hlen
    split at hr
    · rename_i q0 q1 q5 q6 q14
      obtain ⟨o, ho, hr⟩ := optK_some hr
      refine tell_ok hX (KOk.congr (X := X) (Y := X) rfl rfl hK) hin (E := Estrings_FieldsFunc_0) (H := Hstrings_FieldsFunc_0) (R := fun d r => Rstrings_FieldsFunc_0 K d r) (T := Tstrings_FieldsFunc_0) (ts := [(0, 1, 0), (2, 1, 0), (3, 1, 0), (4, 1, 0)]) (len := 2) (cl := clstrings_FieldsFunc_0) (clo := clostrings_FieldsFunc_0) (roundstrings_FieldsFunc_0 K) (natstrings_FieldsFunc_0 K) outstrings_FieldsFunc_0 (hl _ _ ho) (cl0 := clstrings_FieldsFunc_0) (ts0 := [(0, 1, 0)]) ?_ rfl (by kernel_rfl) (by kernel_rfl) hr
      rw [clear_lit e 65 hlen, show clearEnv clstrings_FieldsFunc_0 ((List.range 65).map fun i => e.getD i .dead) = [e.getD 0 .dead, e.getD 1 .dead, .dead, .dead, .dead, e.getD 5 .dead, e.getD 6 .dead, .dead, .dead, .dead, .dead, .dead, .dead, .dead, e.getD 14 .dead, .dead, .dead, .dead, .dead, .dead, .dead, .dead, .dead, .dead, .dead, .dead, .dead, .dead, .dead, .dead, .dead, .dead, .dead, .dead, .dead, .dead, .dead, .dead, .dead, .dead, .dead, .dead, .dead, .dead, .dead, .dead, .dead, .dead, .dead, .dead, .dead, .dead, .dead, .dead, .dead, .dead, .dead, .dead, .dead, .dead, .dead, .dead, .dead, .dead, .dead] from by kernel_rfl]; rw [q0, q1, q5, q6, q14]
      kernel_rfl
    · cases hr
  · cases hr
inductive Sstrings_FieldsFunc_1 where
  | s0 (s0 : ByteArray) (t48 : Int) (t49 : Int) (obj0 : List AV) (obj1s : ByteArray) (obj1q : Nat) (obj2 : List AV)

inductive Ostrings_FieldsFunc_1 where
  | x0 (obj0 : List AV) (obj1s : ByteArray) (obj1q : Nat) (obj2 : List AV)

def Ostrings_FieldsFunc_1.k {β : Type} (o : Ostrings_FieldsFunc_1) (c0 : (List AV) → ByteArray → Nat → (List AV) → Option β) : Option β := match o with
  | .x0 obj0 obj1s obj1q obj2 => c0 obj0 obj1s obj1q obj2

def Estrings_FieldsFunc_1 : Sstrings_FieldsFunc_1 → Env
  | .s0 s0 t48 t49 obj0 obj1s obj1q obj2 => [(.v (.string s0)), .dead, .dead, .dead, .dead, .dead, .dead, .dead, .dead, (.own 2 0 0 none), .dead, .dead, .dead, .dead, .dead, .dead, .dead, .dead, .dead, .dead, .dead, .dead, .dead, .dead, .dead, .dead, .dead, .dead, .dead, .dead, .dead, .dead, .dead, .dead, .dead, .dead, .dead, .dead, .dead, .dead, .dead, .dead, .dead, .dead, .dead, .dead, .dead, (.own 0 2 0 none), (.v (.int .i64 t48)), (.v (.int .i64 t49)), .dead, .dead, .dead, .dead, .dead, .dead, .dead, .dead, .dead, .dead, .dead, .dead, .dead, .dead, .dead]

def Hstrings_FieldsFunc_1 : Sstrings_FieldsFunc_1 → Heap
  | .s0 s0 t48 t49 obj0 obj1s obj1q obj2 => [⟨obj0, 2, 0, true, false, 61, 2, none⟩, ⟨[.junk], 0, 0, true, true, 9, 1, (some (obj1s, obj1q))⟩, ⟨obj2, 0, 0, true, false, 9, 1, none⟩]

def Tstrings_FieldsFunc_1 {β : Type} (k : Ex → Env → Heap → Option β) (o : Ostrings_FieldsFunc_1) : Option β := Ostrings_FieldsFunc_1.k o (fun obj0 obj1s obj1q obj2 => k (.exit 2) [.dead, .dead, .dead, .dead, .dead, .dead, .dead, .dead, .dead, (.own 2 0 0 none), .dead, .dead, .dead, .dead, .dead, .dead, .dead, .dead, .dead, .dead, .dead, .dead, .dead, .dead, .dead, .dead, .dead, .dead, .dead, .dead, .dead, .dead, .dead, .dead, .dead, .dead, .dead, .dead, .dead, .dead, .dead, .dead, .dead, .dead, .dead, .dead, .dead, .dead, .dead, .dead, .dead, .dead, .dead, .dead, .dead, .dead, .dead, .dead, .dead, .dead, .dead, .dead, .dead, .dead, .dead] [⟨obj0, 2, 0, true, false, 61, 2, none⟩, ⟨[.junk], 0, 0, true, true, 9, 1, (some (obj1s, obj1q))⟩, ⟨obj2, 0, 0, true, false, 9, 1, none⟩])

def Fstrings_FieldsFunc_1 (lstrings_FieldsFunc_1 : Sstrings_FieldsFunc_1 → Option Ostrings_FieldsFunc_1) : LoopF := ⟨fun e h k => match Nat.beq e.length 65 with
  | true => (match e.getD 0 .dead, e.getD 9 .dead, e.getD 47 .dead, e.getD 48 .dead, e.getD 49 .dead, h with
    | (.v (.string s0)), (.own 2 0 0 none), (.own 0 2 0 none), (.v (.int .i64 t48)), (.v (.int .i64 t49)), [⟨obj0, 2, 0, true, false, 61, 2, none⟩, ⟨[.junk], 0, 0, true, true, 9, 1, (some (obj1s, obj1q))⟩, ⟨obj2, 0, 0, true, false, 9, 1, none⟩] => optK (lstrings_FieldsFunc_1 (.s0 s0 t48 t49 obj0 obj1s obj1q obj2)) (Tstrings_FieldsFunc_1 k)
    | _, _, _, _, _, _ => none)
  | false => none⟩

def clstrings_FieldsFunc_1 : List Tmp := [1, 2, 3, 4, 5, 6, 7, 8, 10, 11, 12, 13, 14, 15, 16, 17, 18, 19, 20, 21, 22, 23, 24, 25, 26, 27, 28, 29, 30, 31, 32, 33, 34, 35, 36, 37, 38, 39, 40, 41, 42, 43, 44, 45, 46, 50, 51, 52, 53, 54, 55, 56, 57, 58, 59, 60, 61, 62, 63, 64]
def clostrings_FieldsFunc_1 : List Tmp := [0, 1, 2, 3, 4, 5, 6, 7, 8, 10, 11, 12, 13, 14, 15, 16, 17, 18, 19, 20, 21, 22, 23, 24, 25, 26, 27, 28, 29, 30, 31, 32, 33, 34, 35, 36, 37, 38, 39, 40, 41, 42, 43, 44, 45, 46, 47, 48, 49, 50, 51, 52, 53, 54, 55, 56, 57, 58, 59, 60, 61, 62, 63, 64]

noncomputable def Rstrings_FieldsFunc_1 {β : Type} (K : PureK) (d : Ostrings_FieldsFunc_1 → Option β) (r : Sstrings_FieldsFunc_1 → Option β) : Sstrings_FieldsFunc_1 → Option β
  | .s0 s0 t48 t49 obj0 obj1s obj1q obj2 =>
    br (decide (t49 < t48))
      (br (decide (0 ≤ t49))
        (br (decide (t49 < ((obj0.length : Nat) : Int)))
          (optK (obj0[0 + t49.toNat]?) fun wv1 =>
          Ab.asAgg wv1 2 fun wg2 =>
          Ab.asInt (wg2 0) .i64 fun wn3 =>
          Ab.asInt (wg2 1) .i64 fun wn4 =>
          br (decide (0 ≤ wn3))
            (br (decide (wn3 ≤ wn4))
              (br (decide (wn4 ≤ ((s0.size : Nat) : Int)))
                (br (decide (0 ≤ t49))
                  (br (decide (t49 < ((obj2.length : Nat) : Int)))
                    (r (.s0 s0 t48 (w64 (t49 + 1)) obj0 obj1s obj1q (obj2.set (0 + t49.toNat) (sv (cutStr s0 (some wn3) (some wn4))))))
                    (none))
                  (none))
                (none))
              (none))
            (none))
          (none))
        (none))
      (d (.x0 obj0 obj1s obj1q obj2))
theorem roundstrings_FieldsFunc_1 (K : PureK) (lstrings_FieldsFunc_0 : Sstrings_FieldsFunc_0 → Option Ostrings_FieldsFunc_0) {β : Type} (r : Env → Heap → Option β) (k : Ex → Env → Heap → Option β) (s : Sstrings_FieldsFunc_1) : tellOne (addLp X 29 4 (Fstrings_FieldsFunc_0 lstrings_FieldsFunc_0)) K 0 29 1 [(3, 1, 0), (4, 1, 0), (5, 1, 0)] 3 clstrings_FieldsFunc_1 clostrings_FieldsFunc_1 r k (Estrings_FieldsFunc_1 s) (Hstrings_FieldsFunc_1 s) = Rstrings_FieldsFunc_1 K (Tstrings_FieldsFunc_1 k) (fun s => r (Estrings_FieldsFunc_1 s) (Hstrings_FieldsFunc_1 s)) s := by
  cases s <;> kernel_rfl
theorem Ostrings_FieldsFunc_1.bind_k {β γ : Type} (o : Ostrings_FieldsFunc_1) (c0 : (List AV) → ByteArray → Nat → (List AV) → Option β) (φ : β → Option γ) : (Ostrings_FieldsFunc_1.k o c0).bind φ = Ostrings_FieldsFunc_1.k o (fun obj0 obj1s obj1q obj2 => (c0 obj0 obj1s obj1q obj2).bind φ) := by cases o <;> rfl
theorem natstrings_FieldsFunc_1 (K : PureK) {β γ : Type} (φ : β → Option γ) (d : Ostrings_FieldsFunc_1 → Option β) (r : Sstrings_FieldsFunc_1 → Option β) (s : Sstrings_FieldsFunc_1) : Rstrings_FieldsFunc_1 K (fun o => (d o).bind φ) (fun s => (r s).bind φ) s = (Rstrings_FieldsFunc_1 K d r s).bind φ := by
  cases s <;> simp only [Rstrings_FieldsFunc_1, bind_optK, bind_br, bind_asInt, bind_asBool, bind_asStr, bind_asLst, bind_asAgg, bind_asTup, bind_asBig, bind_asErr, bind_none]
theorem outstrings_FieldsFunc_1 (o : Ostrings_FieldsFunc_1) : ∃ x e' h', ∀ {β : Type} (k : Ex → Env → Heap → Option β), Tstrings_FieldsFunc_1 k o = k x e' h' := by cases o <;> exact ⟨_, _, _, fun _ => rfl⟩
theorem okstrings_FieldsFunc_1 {K : PureK} (lstrings_FieldsFunc_0 : Sstrings_FieldsFunc_0 → Option Ostrings_FieldsFunc_0) (hX : Sound (addLp X 29 4 (Fstrings_FieldsFunc_0 lstrings_FieldsFunc_0))) (hK : KOk X K) {lstrings_FieldsFunc_1 : Sstrings_FieldsFunc_1 → Option Ostrings_FieldsFunc_1} (hl : ∀ s o, lstrings_FieldsFunc_1 s = some o → ∃ m, fuelRec (Rstrings_FieldsFunc_1 K some) m s = some o) (β : Type) (e : Env) (h : Heap) (k : Ex → Env → Heap → Option β) (r : β) (hr : (Fstrings_FieldsFunc_1 lstrings_FieldsFunc_1).run e h k = some r) : ∃ x e' h', k x e' h' = some r ∧ CodeAt (addLp X 29 4 (Fstrings_FieldsFunc_0 lstrings_FieldsFunc_0)) (.loop (loopBody ((addLp X 29 4 (Fstrings_FieldsFunc_0 lstrings_FieldsFunc_0))).P 29 1)) e h x e' h' := by
  obtain ⟨fn, c, hin⟩ := loopIn_of (X := (addLp X 29 4 (Fstrings_FieldsFunc_0 lstrings_FieldsFunc_0))) (f := 29) (i := 1) (key := 16) (by kernel_rfl)
  simp only [Fstrings_FieldsFunc_1] at hr
  split at hr
  · rename_i hlen
    have hlen := Nat.eq_of_beq_eq_true hlen
    split at hr
    · rename_i q0 q9 q47 q48 q49
      obtain ⟨o, ho, hr⟩ := optK_some hr
      refine tell_ok hX (KOk.congr (X := X) (Y := (addLp X 29 4 (Fstrings_FieldsFunc_0 lstrings_FieldsFunc_0))) rfl rfl hK) hin (E := Estrings_FieldsFunc_1) (H := Hstrings_FieldsFunc_1) (R := fun d r => Rstrings_FieldsFunc_1 K d r) (T := Tstrings_FieldsFunc_1) (ts := [(3, 1, 0), (4, 1, 0), (5, 1, 0)]) (len := 3) (cl := clstrings_FieldsFunc_1) (clo := clostrings_FieldsFunc_1) (roundstrings_FieldsFunc_1 K lstrings_FieldsFunc_0) (natstrings_FieldsFunc_1 K) outstrings_FieldsFunc_1 (hl _ _ ho) (cl0 := clstrings_FieldsFunc_1) (ts0 := []) ?_ rfl (by kernel_rfl) (by kernel_rfl) hr
      rw [clear_lit e 65 hlen, show clearEnv clstrings_FieldsFunc_1 ((List.range 65).map fun i => e.getD i .dead) = [e.getD 0 .dead, .dead, .dead, .dead, .dead, .dead, .dead, .dead, .dead, e.getD 9 .dead, .dead, .dead, .dead, .dead, .dead, .dead, .dead, .dead, .dead, .dead, .dead, .dead, .dead, .dead, .dead, .dead, .dead, .dead, .dead, .dead, .dead, .dead, .dead, .dead, .dead, .dead, .dead, .dead, .dead, .dead, .dead, .dead, .dead, .dead, .dead, .dead, .dead, e.getD 47 .dead, e.getD 48 .dead, e.getD 49 .dead, .dead, .dead, .dead, .dead, .dead, .dead, .dead, .dead, .dead, .dead, .dead, .dead, .dead, .dead, .dead] from by kernel_rfl]; rw [q0, q9, q47, q48, q49]
      kernel_rfl
    · cases hr
  · cases hr
inductive Sstrings_FieldsFunc_1b where
  | s0 (s0 : ByteArray) (t48 : Int) (t49 : Int) (obj0 : List AV) (obj1s : ByteArray) (obj1q : Nat) (obj2 : List AV)

inductive Ostrings_FieldsFunc_1b where
  | x0 (obj0 : List AV) (obj1s : ByteArray) (obj1q : Nat) (obj2 : List AV)

def Ostrings_FieldsFunc_1b.k {β : Type} (o : Ostrings_FieldsFunc_1b) (c0 : (List AV) → ByteArray → Nat → (List AV) → Option β) : Option β := match o with
  | .x0 obj0 obj1s obj1q obj2 => c0 obj0 obj1s obj1q obj2

def Estrings_FieldsFunc_1b : Sstrings_FieldsFunc_1b → Env
  | .s0 s0 t48 t49 obj0 obj1s obj1q obj2 => [(.v (.string s0)), .dead, .dead, .dead, .dead, .dead, .dead, .dead, .dead, (.own 2 0 0 none), .dead, .dead, .dead, .dead, .dead, .dead, .dead, .dead, .dead, .dead, .dead, .dead, .dead, .dead, .dead, .dead, .dead, .dead, .dead, .dead, .dead, .dead, .dead, .dead, .dead, .dead, .dead, .dead, .dead, .dead, .dead, .dead, .dead, .dead, .dead, .dead, .dead, (.own 0 1 0 none), (.v (.int .i64 t48)), (.v (.int .i64 t49)), .dead, .dead, .dead, .dead, .dead, .dead, .dead, .dead, .dead, .dead, .dead, .dead, .dead, .dead, .dead]

def Hstrings_FieldsFunc_1b : Sstrings_FieldsFunc_1b → Heap
  | .s0 s0 t48 t49 obj0 obj1s obj1q obj2 => [⟨obj0, 1, 0, true, false, 61, 2, none⟩, ⟨[.junk], 0, 0, true, true, 9, 1, (some (obj1s, obj1q))⟩, ⟨obj2, 0, 0, true, false, 9, 1, none⟩]

def Tstrings_FieldsFunc_1b {β : Type} (k : Ex → Env → Heap → Option β) (o : Ostrings_FieldsFunc_1b) : Option β := Ostrings_FieldsFunc_1b.k o (fun obj0 obj1s obj1q obj2 => k (.exit 2) [.dead, .dead, .dead, .dead, .dead, .dead, .dead, .dead, .dead, (.own 2 0 0 none), .dead, .dead, .dead, .dead, .dead, .dead, .dead, .dead, .dead, .dead, .dead, .dead, .dead, .dead, .dead, .dead, .dead, .dead, .dead, .dead, .dead, .dead, .dead, .dead, .dead, .dead, .dead, .dead, .dead, .dead, .dead, .dead, .dead, .dead, .dead, .dead, .dead, .dead, .dead, .dead, .dead, .dead, .dead, .dead, .dead, .dead, .dead, .dead, .dead, .dead, .dead, .dead, .dead, .dead, .dead] [⟨obj0, 1, 0, true, false, 61, 2, none⟩, ⟨[.junk], 0, 0, true, true, 9, 1, (some (obj1s, obj1q))⟩, ⟨obj2, 0, 0, true, false, 9, 1, none⟩])

def Fstrings_FieldsFunc_1b (lstrings_FieldsFunc_1 : Sstrings_FieldsFunc_1 → Option Ostrings_FieldsFunc_1) (lstrings_FieldsFunc_1b : Sstrings_FieldsFunc_1b → Option Ostrings_FieldsFunc_1b) : LoopF := ⟨fun e h k => match Nat.beq e.length 65 with
  | true => (match e.getD 0 .dead, e.getD 9 .dead, e.getD 47 .dead, e.getD 48 .dead, e.getD 49 .dead, h with
    | (.v (.string s0)), (.own 2 0 0 none), (.own 0 1 0 none), (.v (.int .i64 t48)), (.v (.int .i64 t49)), [⟨obj0, 1, 0, true, false, 61, 2, none⟩, ⟨[.junk], 0, 0, true, true, 9, 1, (some (obj1s, obj1q))⟩, ⟨obj2, 0, 0, true, false, 9, 1, none⟩] => optK (lstrings_FieldsFunc_1b (.s0 s0 t48 t49 obj0 obj1s obj1q obj2)) (Tstrings_FieldsFunc_1b k)
    | _, _, _, _, _, _ => (Fstrings_FieldsFunc_1 lstrings_FieldsFunc_1).run e h k)
  | false => (Fstrings_FieldsFunc_1 lstrings_FieldsFunc_1).run e h k⟩

def clstrings_FieldsFunc_1b : List Tmp := [1, 2, 3, 4, 5, 6, 7, 8, 10, 11, 12, 13, 14, 15, 16, 17, 18, 19, 20, 21, 22, 23, 24, 25, 26, 27, 28, 29, 30, 31, 32, 33, 34, 35, 36, 37, 38, 39, 40, 41, 42, 43, 44, 45, 46, 50, 51, 52, 53, 54, 55, 56, 57, 58, 59, 60, 61, 62, 63, 64]
def clostrings_FieldsFunc_1b : List Tmp := [0, 1, 2, 3, 4, 5, 6, 7, 8, 10, 11, 12, 13, 14, 15, 16, 17, 18, 19, 20, 21, 22, 23, 24, 25, 26, 27, 28, 29, 30, 31, 32, 33, 34, 35, 36, 37, 38, 39, 40, 41, 42, 43, 44, 45, 46, 47, 48, 49, 50, 51, 52, 53, 54, 55, 56, 57, 58, 59, 60, 61, 62, 63, 64]

noncomputable def Rstrings_FieldsFunc_1b {β : Type} (K : PureK) (d : Ostrings_FieldsFunc_1b → Option β) (r : Sstrings_FieldsFunc_1b → Option β) : Sstrings_FieldsFunc_1b → Option β
  | .s0 s0 t48 t49 obj0 obj1s obj1q obj2 =>
    br (decide (t49 < t48))
      (br (decide (0 ≤ t49))
        (br (decide (t49 < ((obj0.length : Nat) : Int)))
          (optK (obj0[0 + t49.toNat]?) fun wv1 =>
          Ab.asAgg wv1 2 fun wg2 =>
          Ab.asInt (wg2 0) .i64 fun wn3 =>
          Ab.asInt (wg2 1) .i64 fun wn4 =>
          br (decide (0 ≤ wn3))
            (br (decide (wn3 ≤ wn4))
              (br (decide (wn4 ≤ ((s0.size : Nat) : Int)))
                (br (decide (0 ≤ t49))
                  (br (decide (t49 < ((obj2.length : Nat) : Int)))
                    (r (.s0 s0 t48 (w64 (t49 + 1)) obj0 obj1s obj1q (obj2.set (0 + t49.toNat) (sv (cutStr s0 (some wn3) (some wn4))))))
                    (none))
                  (none))
                (none))
              (none))
            (none))
          (none))
        (none))
      (d (.x0 obj0 obj1s obj1q obj2))
theorem roundstrings_FieldsFunc_1b (K : PureK) (lstrings_FieldsFunc_0 : Sstrings_FieldsFunc_0 → Option Ostrings_FieldsFunc_0) (lstrings_FieldsFunc_1 : Sstrings_FieldsFunc_1 → Option Ostrings_FieldsFunc_1) {β : Type} (r : Env → Heap → Option β) (k : Ex → Env → Heap → Option β) (s : Sstrings_FieldsFunc_1b) : tellOne (addLp (addLp X 29 4 (Fstrings_FieldsFunc_0 lstrings_FieldsFunc_0)) 29 16 (Fstrings_FieldsFunc_1 lstrings_FieldsFunc_1)) K 0 29 1 [(3, 1, 0), (4, 1, 0), (5, 1, 0)] 3 clstrings_FieldsFunc_1b clostrings_FieldsFunc_1b r k (Estrings_FieldsFunc_1b s) (Hstrings_FieldsFunc_1b s) = Rstrings_FieldsFunc_1b K (Tstrings_FieldsFunc_1b k) (fun s => r (Estrings_FieldsFunc_1b s) (Hstrings_FieldsFunc_1b s)) s := by
  cases s <;> kernel_rfl
theorem Ostrings_FieldsFunc_1b.bind_k {β γ : Type} (o : Ostrings_FieldsFunc_1b) (c0 : (List AV) → ByteArray → Nat → (List AV) → Option β) (φ : β → Option γ) : (Ostrings_FieldsFunc_1b.k o c0).bind φ = Ostrings_FieldsFunc_1b.k o (fun obj0 obj1s obj1q obj2 => (c0 obj0 obj1s obj1q obj2).bind φ) := by cases o <;> rfl
theorem natstrings_FieldsFunc_1b (K : PureK) {β γ : Type} (φ : β → Option γ) (d : Ostrings_FieldsFunc_1b → Option β) (r : Sstrings_FieldsFunc_1b → Option β) (s : Sstrings_FieldsFunc_1b) : Rstrings_FieldsFunc_1b K (fun o => (d o).bind φ) (fun s => (r s).bind φ) s = (Rstrings_FieldsFunc_1b K d r s).bind φ := by
  cases s <;> simp only [Rstrings_FieldsFunc_1b, bind_optK, bind_br, bind_asInt, bind_asBool, bind_asStr, bind_asLst, bind_asAgg, bind_asTup, bind_asBig, bind_asErr, bind_none]
theorem outstrings_FieldsFunc_1b (o : Ostrings_FieldsFunc_1b) : ∃ x e' h', ∀ {β : Type} (k : Ex → Env → Heap → Option β), Tstrings_FieldsFunc_1b k o = k x e' h' := by cases o <;> exact ⟨_, _, _, fun _ => rfl⟩
theorem okstrings_FieldsFunc_1b {K : PureK} (lstrings_FieldsFunc_0 : Sstrings_FieldsFunc_0 → Option Ostrings_FieldsFunc_0) (lstrings_FieldsFunc_1 : Sstrings_FieldsFunc_1 → Option Ostrings_FieldsFunc_1) (hX : Sound (addLp (addLp X 29 4 (Fstrings_FieldsFunc_0 lstrings_FieldsFunc_0)) 29 16 (Fstrings_FieldsFunc_1 lstrings_FieldsFunc_1))) (hK : KOk X K) {lstrings_FieldsFunc_1b : Sstrings_FieldsFunc_1b → Option Ostrings_FieldsFunc_1b} (hl : ∀ s o, lstrings_FieldsFunc_1b s = some o → ∃ m, fuelRec (Rstrings_FieldsFunc_1b K some) m s = some o) (β : Type) (e : Env) (h : Heap) (k : Ex → Env → Heap → Option β) (r : β) (hr : (Fstrings_FieldsFunc_1b lstrings_FieldsFunc_1 lstrings_FieldsFunc_1b).run e h k = some r) : ∃ x e' h', k x e' h' = some r ∧ CodeAt (addLp (addLp X 29 4 (Fstrings_FieldsFunc_0 lstrings_FieldsFunc_0)) 29 16 (Fstrings_FieldsFunc_1 lstrings_FieldsFunc_1)) (.loop (loopBody ((addLp (addLp X 29 4 (Fstrings_FieldsFunc_0 lstrings_FieldsFunc_0)) 29 16 (Fstrings_FieldsFunc_1 lstrings_FieldsFunc_1))).P 29 1)) e h x e' h' := by
  obtain ⟨fn, c, hin⟩ := loopIn_of (X := (addLp (addLp X 29 4 (Fstrings_FieldsFunc_0 lstrings_FieldsFunc_0)) 29 16 (Fstrings_FieldsFunc_1 lstrings_FieldsFunc_1))) (f := 29) (i := 1) (key := 16) (by kernel_rfl)
  simp only [Fstrings_FieldsFunc_1b] at hr
  split at hr
  · rename_i hlen
    have hlen := Nat.eq_of_beq_eq_true hlen
    split at hr
    · rename_i q0 q9 q47 q48 q49
      obtain ⟨o, ho, hr⟩ := optK_some hr
      refine tell_ok hX (KOk.congr (X := X) (Y := (addLp (addLp X 29 4 (Fstrings_FieldsFunc_0 lstrings_FieldsFunc_0)) 29 16 (Fstrings_FieldsFunc_1 lstrings_FieldsFunc_1))) rfl rfl hK) hin (E := Estrings_FieldsFunc_1b) (H := Hstrings_FieldsFunc_1b) (R := fun d r => Rstrings_FieldsFunc_1b K d r) (T := Tstrings_FieldsFunc_1b) (ts := [(3, 1, 0), (4, 1, 0), (5, 1, 0)]) (len := 3) (cl := clstrings_FieldsFunc_1b) (clo := clostrings_FieldsFunc_1b) (roundstrings_FieldsFunc_1b K lstrings_FieldsFunc_0 lstrings_FieldsFunc_1) (natstrings_FieldsFunc_1b K) outstrings_FieldsFunc_1b (hl _ _ ho) (cl0 := clstrings_FieldsFunc_1b) (ts0 := []) ?_ rfl (by kernel_rfl) (by kernel_rfl) hr
      rw [clear_lit e 65 hlen, show clearEnv clstrings_FieldsFunc_1b ((List.range 65).map fun i => e.getD i .dead) = [e.getD 0 .dead, .dead, .dead, .dead, .dead, .dead, .dead, .dead, .dead, e.getD 9 .dead, .dead, .dead, .dead, .dead, .dead, .dead, .dead, .dead, .dead, .dead, .dead, .dead, .dead, .dead, .dead, .dead, .dead, .dead, .dead, .dead, .dead, .dead, .dead, .dead, .dead, .dead, .dead, .dead, .dead, .dead, .dead, .dead, .dead, .dead, .dead, .dead, .dead, e.getD 47 .dead, e.getD 48 .dead, e.getD 49 .dead, .dead, .dead, .dead, .dead, .dead, .dead, .dead, .dead, .dead, .dead, .dead, .dead, .dead, .dead, .dead] from by kernel_rfl]; rw [q0, q9, q47, q48, q49]
      kernel_rfl
    · exact hX.lp 29 fn c hin.hok hin.hfn hin.hbody _ (List.mem_of_getElem? hin.code) (Fstrings_FieldsFunc_1 lstrings_FieldsFunc_1) (by kernel_rfl) β _ _ k r hr
  · exact hX.lp 29 fn c hin.hok hin.hfn hin.hbody _ (List.mem_of_getElem? hin.code) (Fstrings_FieldsFunc_1 lstrings_FieldsFunc_1) (by kernel_rfl) β _ _ k r hr
noncomputable def Rstrings_FieldsFunc (K : PureK) (lstrings_FieldsFunc_0 : Sstrings_FieldsFunc_0 → Option Ostrings_FieldsFunc_0) (lstrings_FieldsFunc_1 : Sstrings_FieldsFunc_1 → Option Ostrings_FieldsFunc_1) (lstrings_FieldsFunc_1b : Sstrings_FieldsFunc_1b → Option Ostrings_FieldsFunc_1b) (s0 : ByteArray) : Option AV :=
  optK (lstrings_FieldsFunc_0 (Sstrings_FieldsFunc_0.s0 s0 (-1) [] s0 0)) fun wo7 => Ostrings_FieldsFunc_0.k wo7 (fun (s0_8 : ByteArray) (start6_8 : Int) (obj0_8 : List AV) (obj1s_8 : ByteArray) (obj1q_8 : Nat) =>
    br (decide (start6_8 ≥ 0))
      (br (lenOk (obj0_8.length + [AV.agg [iv start6_8, iv (((s0_8.size : Nat) : Int))]].length) 16 && lenOk (obj0_8.length + [AV.agg [iv start6_8, iv (((s0_8.size : Nat) : Int))]].length) 1)
        (br (decide ((((obj0_8 ++ [AV.agg [iv start6_8, iv (((s0_8.size : Nat) : Int))]]).length : Nat) : Int) ≤ (((obj0_8 ++ [AV.agg [iv start6_8, iv (((s0_8.size : Nat) : Int))]]).length : Nat) : Int)))
          (br (lenOk ((((obj0_8 ++ [AV.agg [iv start6_8, iv (((s0_8.size : Nat) : Int))]]).length : Nat) : Int)).toNat 16 && lenOk ((((obj0_8 ++ [AV.agg [iv start6_8, iv (((s0_8.size : Nat) : Int))]]).length : Nat) : Int)).toNat 1)
            (optK (lstrings_FieldsFunc_1 (Sstrings_FieldsFunc_1.s0 s0_8 ((((obj0_8 ++ [AV.agg [iv start6_8, iv (((s0_8.size : Nat) : Int))]]).length : Nat) : Int)) 0 (obj0_8 ++ [AV.agg [iv start6_8, iv (((s0_8.size : Nat) : Int))]]) obj1s_8 obj1q_8 (List.replicate ((((obj0_8 ++ [AV.agg [iv start6_8, iv (((s0_8.size : Nat) : Int))]]).length : Nat) : Int)).toNat (sv ({ data := #[] } : ByteArray))))) fun wo9 => Ostrings_FieldsFunc_1.k wo9 (fun (obj0_10 : List AV) (obj1s_10 : ByteArray) (obj1q_10 : Nat) (obj2_10 : List AV) =>
            some (AV.lst 1 false obj2_10)))
            (none))
          (none))
        (none))
      (br (decide (((obj0_8.length : Nat) : Int) ≤ ((obj0_8.length : Nat) : Int)))
        (br (lenOk (((obj0_8.length : Nat) : Int)).toNat 16 && lenOk (((obj0_8.length : Nat) : Int)).toNat 1)
          (optK (lstrings_FieldsFunc_1b (Sstrings_FieldsFunc_1b.s0 s0_8 (((obj0_8.length : Nat) : Int)) 0 obj0_8 obj1s_8 obj1q_8 (List.replicate (((obj0_8.length : Nat) : Int)).toNat (sv ({ data := #[] } : ByteArray))))) fun wo11 => Ostrings_FieldsFunc_1b.k wo11 (fun (obj0_12 : List AV) (obj1s_12 : ByteArray) (obj1q_12 : Nat) (obj2_12 : List AV) =>
          some (AV.lst 1 false obj2_12)))
          (none))
        (none)))
theorem topstrings_FieldsFunc (K : PureK) (lstrings_FieldsFunc_0 : Sstrings_FieldsFunc_0 → Option Ostrings_FieldsFunc_0) (lstrings_FieldsFunc_1 : Sstrings_FieldsFunc_1 → Option Ostrings_FieldsFunc_1) (lstrings_FieldsFunc_1b : Sstrings_FieldsFunc_1b → Option Ostrings_FieldsFunc_1b) (s0 : ByteArray) : topK (addLp (addLp (addLp X 29 4 (Fstrings_FieldsFunc_0 lstrings_FieldsFunc_0)) 29 16 (Fstrings_FieldsFunc_1 lstrings_FieldsFunc_1)) 29 16 (Fstrings_FieldsFunc_1b lstrings_FieldsFunc_1 lstrings_FieldsFunc_1b)) K 0 f_strings_FieldsFunc [(.v (.string s0)), (.fn (.func 30) [] [])] = Rstrings_FieldsFunc K lstrings_FieldsFunc_0 lstrings_FieldsFunc_1 lstrings_FieldsFunc_1b s0 := by kernel_rfl
theorem pcstrings_FieldsFunc {K : PureK} (hK : KOk X K) {lstrings_FieldsFunc_0 : Sstrings_FieldsFunc_0 → Option Ostrings_FieldsFunc_0} {lstrings_FieldsFunc_1 : Sstrings_FieldsFunc_1 → Option Ostrings_FieldsFunc_1} {lstrings_FieldsFunc_1b : Sstrings_FieldsFunc_1b → Option Ostrings_FieldsFunc_1b} (hstrings_FieldsFunc_0 : ∀ s o, lstrings_FieldsFunc_0 s = some o → ∃ m, fuelRec (Rstrings_FieldsFunc_0 K some) m s = some o) (hstrings_FieldsFunc_1 : ∀ s o, lstrings_FieldsFunc_1 s = some o → ∃ m, fuelRec (Rstrings_FieldsFunc_1 K some) m s = some o) (hstrings_FieldsFunc_1b : ∀ s o, lstrings_FieldsFunc_1b s = some o → ∃ m, fuelRec (Rstrings_FieldsFunc_1b K some) m s = some o) {s0 : ByteArray} {v : AV} (h : Rstrings_FieldsFunc K lstrings_FieldsFunc_0 lstrings_FieldsFunc_1 lstrings_FieldsFunc_1b s0 = some v) : PureCall X f_strings_FieldsFunc [(.v (.string s0)), (.fn (.func 30) [] [])] v := by
  have hSo0 := soundX
  obtain ⟨_, _, hin0⟩ := loopIn_of (X := X) (f := 29) (i := 0) (key := 4) (by kernel_rfl)
  have hSo1 := sound_add hSo0 hin0 (okstrings_FieldsFunc_0 hSo0 hK hstrings_FieldsFunc_0)
  obtain ⟨_, _, hin1⟩ := loopIn_of (X := (addLp X 29 4 (Fstrings_FieldsFunc_0 lstrings_FieldsFunc_0))) (f := 29) (i := 1) (key := 16) (by kernel_rfl)
  have hSo2 := sound_add hSo1 hin1 (okstrings_FieldsFunc_1 lstrings_FieldsFunc_0 hSo1 hK hstrings_FieldsFunc_1)
  obtain ⟨_, _, hin2⟩ := loopIn_of (X := (addLp (addLp X 29 4 (Fstrings_FieldsFunc_0 lstrings_FieldsFunc_0)) 29 16 (Fstrings_FieldsFunc_1 lstrings_FieldsFunc_1))) (f := 29) (i := 1) (key := 16) (by kernel_rfl)
  have hSo3 := sound_add hSo2 hin2 (okstrings_FieldsFunc_1b lstrings_FieldsFunc_0 lstrings_FieldsFunc_1 hSo2 hK hstrings_FieldsFunc_1b)
  exact tell_top (X := X) (Y := (addLp (addLp (addLp X 29 4 (Fstrings_FieldsFunc_0 lstrings_FieldsFunc_0)) 29 16 (Fstrings_FieldsFunc_1 lstrings_FieldsFunc_1)) 29 16 (Fstrings_FieldsFunc_1b lstrings_FieldsFunc_1 lstrings_FieldsFunc_1b))) rfl rfl hSo3 hK ((topstrings_FieldsFunc K lstrings_FieldsFunc_0 lstrings_FieldsFunc_1 lstrings_FieldsFunc_1b s0).trans h)

/-! 31: escheat/date.week -/
noncomputable def Rdate_week (K : PureK) (s0 : ByteArray) : Option AV :=
  optK (K f_strings_CutSuffix [sv s0, sv ({ data := #[44] } : ByteArray)]) fun wv1 =>
    Ab.asTup wv1 2 fun wg2 =>
    Ab.asStr (wg2 0) fun ws3 =>
    Ab.asBool (wg2 1) fun wb4 =>
    optK (br wb4
        (br (!strEq ws3 ({ data := #[] } : ByteArray))
          (optK (K f_strings_Trim [sv ws3, sv ({ data := #[97, 98, 99, 100, 101, 102, 103, 104, 105, 106, 107, 108, 109, 110, 111, 112, 113, 114, 115, 116, 117, 118, 119, 120, 121, 122, 65, 66, 67, 68, 69, 70, 71, 72, 73, 74, 75, 76, 77, 78, 79, 80, 81, 82, 83, 84, 85, 86, 87, 88, 89, 90] } : ByteArray)]) fun wv6 =>
          Ab.asStr wv6 fun ws7 =>
          some (bv (strEq ws7 ({ data := #[] } : ByteArray))))
          (some (bv false)))
        (some (bv false))) fun wv5 =>
    Ab.asBool wv5 fun wb8 =>
    some (bv wb8)
theorem topdate_week (K : PureK) (s0 : ByteArray) : topK X K 0 f_date_week [(.v (.string s0))] = Rdate_week K s0 := by kernel_rfl
theorem pcdate_week {K : PureK} (hK : KOk X K) {s0 : ByteArray} {v : AV} (h : Rdate_week K s0 = some v) : PureCall X f_date_week [(.v (.string s0))] v := by
  have hSo0 := soundX
  exact tell_top (X := X) (Y := X) rfl rfl hSo0 hK ((topdate_week K s0).trans h)

/-! 51: strings.CutSuffix -/
noncomputable def Rstrings_CutSuffix (K : PureK) (s0 : ByteArray) (suffix1 : ByteArray) : Option AV :=
  optK (K f_i_stringslite_CutSuffix [sv s0, sv suffix1]) fun wv1 =>
    Ab.asTup wv1 2 fun wg2 =>
    Ab.asStr (wg2 0) fun ws3 =>
    Ab.asBool (wg2 1) fun wb4 =>
    some (AV.tup [sv ws3, bv wb4])
theorem topstrings_CutSuffix (K : PureK) (s0 : ByteArray) (suffix1 : ByteArray) : topK X K 0 f_strings_CutSuffix [(.v (.string s0)), (.v (.string suffix1))] = Rstrings_CutSuffix K s0 suffix1 := by kernel_rfl
theorem pcstrings_CutSuffix {K : PureK} (hK : KOk X K) {s0 : ByteArray} {suffix1 : ByteArray} {v : AV} (h : Rstrings_CutSuffix K s0 suffix1 = some v) : PureCall X f_strings_CutSuffix [(.v (.string s0)), (.v (.string suffix1))] v := by
  have hSo0 := soundX
  exact tell_top (X := X) (Y := X) rfl rfl hSo0 hK ((topstrings_CutSuffix K s0 suffix1).trans h)

/-! 32: strings.HasPrefix -/
noncomputable def Rstrings_HasPrefix (K : PureK) (s0 : ByteArray) (prefix1 : ByteArray) : Option AV :=
  optK (K f_i_stringslite_HasPrefix [sv s0, sv prefix1]) fun wv1 =>
    Ab.asBool wv1 fun wb2 =>
    some (bv wb2)
theorem topstrings_HasPrefix (K : PureK) (s0 : ByteArray) (prefix1 : ByteArray) : topK X K 0 f_strings_HasPrefix [(.v (.string s0)), (.v (.string prefix1))] = Rstrings_HasPrefix K s0 prefix1 := by kernel_rfl
theorem pcstrings_HasPrefix {K : PureK} (hK : KOk X K) {s0 : ByteArray} {prefix1 : ByteArray} {v : AV} (h : Rstrings_HasPrefix K s0 prefix1 = some v) : PureCall X f_strings_HasPrefix [(.v (.string s0)), (.v (.string prefix1))] v := by
  have hSo0 := soundX
  exact tell_top (X := X) (Y := X) rfl rfl hSo0 hK ((topstrings_HasPrefix K s0 prefix1).trans h)

/-! 33: strings.HasSuffix -/
noncomputable def Rstrings_HasSuffix (K : PureK) (s0 : ByteArray) (suffix1 : ByteArray) : Option AV :=
  optK (K f_i_stringslite_HasSuffix [sv s0, sv suffix1]) fun wv1 =>
    Ab.asBool wv1 fun wb2 =>
    some (bv wb2)
theorem topstrings_HasSuffix (K : PureK) (s0 : ByteArray) (suffix1 : ByteArray) : topK X K 0 f_strings_HasSuffix [(.v (.string s0)), (.v (.string suffix1))] = Rstrings_HasSuffix K s0 suffix1 := by kernel_rfl
theorem pcstrings_HasSuffix {K : PureK} (hK : KOk X K) {s0 : ByteArray} {suffix1 : ByteArray} {v : AV} (h : Rstrings_HasSuffix K s0 suffix1 = some v) : PureCall X f_strings_HasSuffix [(.v (.string s0)), (.v (.string suffix1))] v := by
  have hSo0 := soundX
  exact tell_top (X := X) (Y := X) rfl rfl hSo0 hK ((topstrings_HasSuffix K s0 suffix1).trans h)

/-! 54: internal/stringslite.HasSuffix -/
noncomputable def Ri_stringslite_HasSuffix (K : PureK) (s0 : ByteArray) (suffix1 : ByteArray) : Option AV :=
  optK (br (decide (((s0.size : Nat) : Int) ≥ ((suffix1.size : Nat) : Int)))
        (br (decide (0 ≤ w64 (((s0.size : Nat) : Int) - ((suffix1.size : Nat) : Int))))
          (br (decide (w64 (((s0.size : Nat) : Int) - ((suffix1.size : Nat) : Int)) ≤ ((s0.size : Nat) : Int)))
            (some (bv (strEq (cutStr s0 (some (w64 (((s0.size : Nat) : Int) - ((suffix1.size : Nat) : Int)))) none) suffix1)))
            (none))
          (none))
        (some (bv false))) fun wv1 =>
    Ab.asBool wv1 fun wb2 =>
    some (bv wb2)
theorem topi_stringslite_HasSuffix (K : PureK) (s0 : ByteArray) (suffix1 : ByteArray) : topK X K 0 f_i_stringslite_HasSuffix [(.v (.string s0)), (.v (.string suffix1))] = Ri_stringslite_HasSuffix K s0 suffix1 := by kernel_rfl
theorem pci_stringslite_HasSuffix {K : PureK} (hK : KOk X K) {s0 : ByteArray} {suffix1 : ByteArray} {v : AV} (h : Ri_stringslite_HasSuffix K s0 suffix1 = some v) : PureCall X f_i_stringslite_HasSuffix [(.v (.string s0)), (.v (.string suffix1))] v := by
  have hSo0 := soundX
  exact tell_top (X := X) (Y := X) rfl rfl hSo0 hK ((topi_stringslite_HasSuffix K s0 suffix1).trans h)

/-! 66: internal/stringslite.CutSuffix -/
noncomputable def Ri_stringslite_CutSuffix (K : PureK) (s0 : ByteArray) (suffix1 : ByteArray) : Option AV :=
  optK (K f_i_stringslite_HasSuffix [sv s0, sv suffix1]) fun wv1 =>
    Ab.asBool wv1 fun wb2 =>
    br (!wb2)
      (some (AV.tup [sv s0, bv false]))
      (br (decide (0 ≤ w64 (((s0.size : Nat) : Int) - ((suffix1.size : Nat) : Int))))
        (br (decide (w64 (((s0.size : Nat) : Int) - ((suffix1.size : Nat) : Int)) ≤ ((s0.size : Nat) : Int)))
          (some (AV.tup [sv (cutStr s0 none (some (w64 (((s0.size : Nat) : Int) - ((suffix1.size : Nat) : Int))))), bv true]))
          (none))
        (none))
theorem topi_stringslite_CutSuffix (K : PureK) (s0 : ByteArray) (suffix1 : ByteArray) : topK X K 0 f_i_stringslite_CutSuffix [(.v (.string s0)), (.v (.string suffix1))] = Ri_stringslite_CutSuffix K s0 suffix1 := by kernel_rfl
theorem pci_stringslite_CutSuffix {K : PureK} (hK : KOk X K) {s0 : ByteArray} {suffix1 : ByteArray} {v : AV} (h : Ri_stringslite_CutSuffix K s0 suffix1 = some v) : PureCall X f_i_stringslite_CutSuffix [(.v (.string s0)), (.v (.string suffix1))] v := by
  have hSo0 := soundX
  exact tell_top (X := X) (Y := X) rfl rfl hSo0 hK ((topi_stringslite_CutSuffix K s0 suffix1).trans h)


/-! 49: escheat/escheatref07.num -/
inductive Sref07_num_0 where
  | s0 (s0 : ByteArray) (n7 : Int) (i8 : Int)

inductive Oref07_num_0 where
  | x0 (t6 : Int) (n7 : Int)
  | x1 (n7 : Int)

def Oref07_num_0.k {β : Type} (o : Oref07_num_0) (c0 : Int → Int → Option β) (c1 : Int → Option β) : Option β := match o with
  | .x0 t6 n7 => c0 t6 n7
  | .x1 n7 => c1 n7

def Eref07_num_0 : Sref07_num_0 → Env
  | .s0 s0 n7 i8 => [(.v (.string s0)), .dead, .dead, .dead, .dead, .dead, .dead, (.v (.int .i64 n7)), (.v (.int .i64 i8)), .dead, .dead, .dead, .dead, .dead, .dead, .dead, .dead, .dead, .dead, .dead, .dead, .dead, .dead, .dead, .dead, .dead, .dead, .dead, .dead, .dead, .dead, .dead, .dead, .dead, .dead, .dead, .dead, .dead, .dead, .dead, .dead, .dead, .dead, .dead]

def Href07_num_0 : Sref07_num_0 → Heap
  | .s0 s0 n7 i8 => []

def Tref07_num_0 {β : Type} (k : Ex → Env → Heap → Option β) (o : Oref07_num_0) : Option β := Oref07_num_0.k o (fun t6 n7 => k .ret [.dead, .dead, .dead, .dead, .dead, .dead, (.v (.int .i64 t6)), (.v (.int .i64 n7)), .dead, .dead, .dead, .dead, .dead, .dead, .dead, .dead, .dead, .dead, .dead, .dead, .dead, .dead, .dead, .dead, .dead, .dead, .dead, .dead, .dead, .dead, .dead, .dead, .dead, .dead, .dead, .dead, .dead, .dead, .dead, .dead, .dead, .dead, .dead, .dead] []) (fun n7 => k (.exit 0) [.dead, .dead, .dead, .dead, .dead, .dead, .dead, (.v (.int .i64 n7)), .dead, .dead, .dead, .dead, .dead, .dead, .dead, .dead, .dead, .dead, .dead, .dead, .dead, .dead, .dead, .dead, .dead, .dead, .dead, .dead, .dead, .dead, .dead, .dead, .dead, .dead, .dead, .dead, .dead, .dead, .dead, .dead, .dead, .dead, .dead, .dead] [])

def Fref07_num_0 (lref07_num_0 : Sref07_num_0 → Option Oref07_num_0) : LoopF := ⟨fun e h k => match Nat.beq e.length 44 with
  | true => (match e.getD 0 .dead, e.getD 7 .dead, e.getD 8 .dead, h with
    | (.v (.string s0)), (.v (.int .i64 n7)), (.v (.int .i64 i8)), [] => optK (lref07_num_0 (.s0 s0 n7 i8)) (Tref07_num_0 k)
    | _, _, _, _ => none)
  | false => none⟩

def clref07_num_0 : List Tmp := [1, 2, 3, 4, 5, 6, 9, 10, 11, 12, 13, 14, 15, 16, 17, 18, 19, 20, 21, 22, 23, 24, 25, 26, 27, 28, 29, 30, 31, 32, 33, 34, 35, 36, 37, 38, 39, 40, 41, 42, 43]
def cloref07_num_0 : List Tmp := [0, 1, 2, 3, 4, 5, 8, 9, 10, 11, 12, 13, 14, 15, 16, 17, 18, 19, 20, 21, 22, 23, 24, 25, 26, 27, 28, 29, 30, 31, 32, 33, 34, 35, 36, 37, 38, 39, 40, 41, 42, 43]

noncomputable def Rref07_num_0 {β : Type} (K : PureK) (d : Oref07_num_0 → Option β) (r : Sref07_num_0 → Option β) : Sref07_num_0 → Option β
  | .s0 s0 n7 i8 =>
    br (decide (i8 < ((s0.size : Nat) : Int)))
      (optK (br (decide (0 ≤ i8))
          (br (decide (i8 < ((s0.size : Nat) : Int)))
            (br (decide (bt s0 i8.toNat < 48))
              (some (bv true))
              (br (decide (0 ≤ i8))
                (br (decide (i8 < ((s0.size : Nat) : Int)))
                  (some (bv (decide (bt s0 i8.toNat > 57))))
                  (none))
                (none)))
            (none))
          (none)) fun wv1 =>
      Ab.asBool wv1 fun wb2 =>
      br wb2
        (d (.x0 (-1) n7))
        (br (decide (0 ≤ i8))
          (br (decide (i8 < ((s0.size : Nat) : Int)))
            (r (.s0 s0 (w64 (w64 (n7 * 10) + w64 (w8 (bt s0 i8.toNat - 48)))) (w64 (i8 + 1))))
            (none))
          (none)))
      (d (.x1 n7))
theorem roundref07_num_0 (K : PureK) {β : Type} (r : Env → Heap → Option β) (k : Ex → Env → Heap → Option β) (s : Sref07_num_0) : tellOne X K 0 49 0 [(0, 1, 0), (1, 1, 0), (2, 1, 0)] 0 clref07_num_0 cloref07_num_0 r k (Eref07_num_0 s) (Href07_num_0 s) = Rref07_num_0 K (Tref07_num_0 k) (fun s => r (Eref07_num_0 s) (Href07_num_0 s)) s := by
  cases s <;> kernel_rfl
theorem Oref07_num_0.bind_k {β γ : Type} (o : Oref07_num_0) (c0 : Int → Int → Option β) (c1 : Int → Option β) (φ : β → Option γ) : (Oref07_num_0.k o c0 c1).bind φ = Oref07_num_0.k o (fun t6 n7 => (c0 t6 n7).bind φ) (fun n7 => (c1 n7).bind φ) := by cases o <;> rfl
theorem natref07_num_0 (K : PureK) {β γ : Type} (φ : β → Option γ) (d : Oref07_num_0 → Option β) (r : Sref07_num_0 → Option β) (s : Sref07_num_0) : Rref07_num_0 K (fun o => (d o).bind φ) (fun s => (r s).bind φ) s = (Rref07_num_0 K d r s).bind φ := by
  cases s <;> simp only [Rref07_num_0, bind_optK, bind_br, bind_asInt, bind_asBool, bind_asStr, bind_asLst, bind_asAgg, bind_asTup, bind_asBig, bind_asErr, bind_none]
theorem outref07_num_0 (o : Oref07_num_0) : ∃ x e' h', ∀ {β : Type} (k : Ex → Env → Heap → Option β), Tref07_num_0 k o = k x e' h' := by cases o <;> exact ⟨_, _, _, fun _ => rfl⟩
theorem okref07_num_0 {K : PureK} (hX : Sound X) (hK : KOk X K) {lref07_num_0 : Sref07_num_0 → Option Oref07_num_0} (hl : ∀ s o, lref07_num_0 s = some o → ∃ m, fuelRec (Rref07_num_0 K some) m s = some o) (β : Type) (e : Env) (h : Heap) (k : Ex → Env → Heap → Option β) (r : β) (hr : (Fref07_num_0 lref07_num_0).run e h k = some r) : ∃ x e' h', k x e' h' = some r ∧ CodeAt X (.loop (loopBody (X).P 49 0)) e h x e' h' := by
  obtain ⟨fn, c, hin⟩ := loopIn_of (X := X) (f := 49) (i := 0) (key := 5) (by kernel_rfl)
  simp only [Fref07_num_0] at hr
  split at hr
  · rename_i hlen
    have hlen := Nat.eq_of_beq_eq_true hlen
    split at hr
    · rename_i q0 q7 q8
      obtain ⟨o, ho, hr⟩ := optK_some hr
      refine tell_ok hX (KOk.congr (X := X) (Y := X) rfl rfl hK) hin (E := Eref07_num_0) (H := Href07_num_0) (R := fun d r => Rref07_num_0 K d r) (T := Tref07_num_0) (ts := [(0, 1, 0), (1, 1, 0), (2, 1, 0)]) (len := 0) (cl := clref07_num_0) (clo := cloref07_num_0) (roundref07_num_0 K) (natref07_num_0 K) outref07_num_0 (hl _ _ ho) (cl0 := clref07_num_0) (ts0 := []) ?_ rfl (by kernel_rfl) (by kernel_rfl) hr
      rw [clear_lit e 44 hlen, show clearEnv clref07_num_0 ((List.range 44).map fun i => e.getD i .dead) = [e.getD 0 .dead, .dead, .dead, .dead, .dead, .dead, .dead, e.getD 7 .dead, e.getD 8 .dead, .dead, .dead, .dead, .dead, .dead, .dead, .dead, .dead, .dead, .dead, .dead, .dead, .dead, .dead, .dead, .dead, .dead, .dead, .dead, .dead, .dead, .dead, .dead, .dead, .dead, .dead, .dead, .dead, .dead, .dead, .dead, .dead, .dead, .dead, .dead] from by kernel_rfl]; rw [q0, q7, q8]
      kernel_rfl
    · cases hr
  · cases hr
noncomputable def Rref07_num (K : PureK) (lref07_num_0 : Sref07_num_0 → Option Oref07_num_0) (s0 : ByteArray) (from1 : Int) (to2 : Int) : Option AV :=
  optK (br (decide (((s0.size : Nat) : Int) < from1))
        (some (bv true))
        (some (bv (decide (((s0.size : Nat) : Int) > to2))))) fun wv3 =>
    Ab.asBool wv3 fun wb4 =>
    br wb4
      (some (iv (-1)))
      (optK (lref07_num_0 (Sref07_num_0.s0 s0 0 0)) fun wo5 => Oref07_num_0.k wo5
        (fun (t6_6 : Int) (n7_6 : Int) => some (iv t6_6))
        (fun (n7_7 : Int) => some (iv n7_7)))
theorem topref07_num (K : PureK) (lref07_num_0 : Sref07_num_0 → Option Oref07_num_0) (s0 : ByteArray) (from1 : Int) (to2 : Int) : topK (addLp X 49 5 (Fref07_num_0 lref07_num_0)) K 0 f_ref07_num [(.v (.string s0)), (.v (.int .i64 from1)), (.v (.int .i64 to2))] = Rref07_num K lref07_num_0 s0 from1 to2 := by kernel_rfl
theorem pcref07_num {K : PureK} (hK : KOk X K) {lref07_num_0 : Sref07_num_0 → Option Oref07_num_0} (href07_num_0 : ∀ s o, lref07_num_0 s = some o → ∃ m, fuelRec (Rref07_num_0 K some) m s = some o) {s0 : ByteArray} {from1 : Int} {to2 : Int} {v : AV} (h : Rref07_num K lref07_num_0 s0 from1 to2 = some v) : PureCall X f_ref07_num [(.v (.string s0)), (.v (.int .i64 from1)), (.v (.int .i64 to2))] v := by
  have hSo0 := soundX
  obtain ⟨_, _, hin0⟩ := loopIn_of (X := X) (f := 49) (i := 0) (key := 5) (by kernel_rfl)
  have hSo1 := sound_add hSo0 hin0 (okref07_num_0 hSo0 hK href07_num_0)
  exact tell_top (X := X) (Y := (addLp X 49 5 (Fref07_num_0 lref07_num_0))) rfl rfl hSo1 hK ((topref07_num K lref07_num_0 s0 from1 to2).trans h)

/-! 65: escheat/escheatref07.small -/
inductive Sref07_small_0 where
  | s0 (s0 : ByteArray) (out3 : ByteArray) (i4 : Int)

inductive Oref07_small_0 where
  | x0 (out3 : ByteArray)

def Oref07_small_0.k {β : Type} (o : Oref07_small_0) (c0 : ByteArray → Option β) : Option β := match o with
  | .x0 out3 => c0 out3

def Eref07_small_0 : Sref07_small_0 → Env
  | .s0 s0 out3 i4 => [(.v (.string s0)), .dead, .dead, (.v (.string out3)), (.v (.int .i64 i4)), .dead, .dead, .dead, .dead, .dead, .dead, .dead, .dead, .dead, .dead, .dead, .dead, .dead, .dead, .dead, .dead, .dead, .dead, .dead, .dead, .dead, .dead, .dead, .dead]

def Href07_small_0 : Sref07_small_0 → Heap
  | .s0 s0 out3 i4 => []

def Tref07_small_0 {β : Type} (k : Ex → Env → Heap → Option β) (o : Oref07_small_0) : Option β := Oref07_small_0.k o (fun out3 => k (.exit 0) [.dead, .dead, .dead, (.v (.string out3)), .dead, .dead, .dead, .dead, .dead, .dead, .dead, .dead, .dead, .dead, .dead, .dead, .dead, .dead, .dead, .dead, .dead, .dead, .dead, .dead, .dead, .dead, .dead, .dead, .dead] [])

def Fref07_small_0 (lref07_small_0 : Sref07_small_0 → Option Oref07_small_0) : LoopF := ⟨fun e h k => match Nat.beq e.length 29 with
  | true => (match e.getD 0 .dead, e.getD 3 .dead, e.getD 4 .dead, h with
    | (.v (.string s0)), (.v (.string out3)), (.v (.int .i64 i4)), [] => optK (lref07_small_0 (.s0 s0 out3 i4)) (Tref07_small_0 k)
    | _, _, _, _ => none)
  | false => none⟩

def clref07_small_0 : List Tmp := [1, 2, 5, 6, 7, 8, 9, 10, 11, 12, 13, 14, 15, 16, 17, 18, 19, 20, 21, 22, 23, 24, 25, 26, 27, 28]
def cloref07_small_0 : List Tmp := [0, 1, 2, 4, 5, 6, 7, 8, 9, 10, 11, 12, 13, 14, 15, 16, 17, 18, 19, 20, 21, 22, 23, 24, 25, 26, 27, 28]

noncomputable def Rref07_small_0 {β : Type} (K : PureK) (d : Oref07_small_0 → Option β) (r : Sref07_small_0 → Option β) : Sref07_small_0 → Option β
  | .s0 s0 out3 i4 =>
    br (decide (i4 < ((s0.size : Nat) : Int)))
      (br (decide (0 ≤ i4))
        (br (decide (i4 < ((s0.size : Nat) : Int)))
          (optK (br (decide (bt s0 i4.toNat ≥ 65))
              (some (bv (decide (bt s0 i4.toNat ≤ 90))))
              (some (bv false))) fun wv1 =>
          Ab.asBool wv1 fun wb2 =>
          br wb2
            (br ((out3.size + ({ data := [UInt8.ofNat (w8 (bt s0 i4.toNat + 32)).toNat].reverse.toArray } : ByteArray).size).ble maxStr)
              (r (.s0 s0 (catStr out3 ({ data := [UInt8.ofNat (w8 (bt s0 i4.toNat + 32)).toNat].reverse.toArray } : ByteArray)) (w64 (i4 + 1))))
              (none))
            (br ((out3.size + ({ data := [UInt8.ofNat (bt s0 i4.toNat).toNat].reverse.toArray } : ByteArray).size).ble maxStr)
              (r (.s0 s0 (catStr out3 ({ data := [UInt8.ofNat (bt s0 i4.toNat).toNat].reverse.toArray } : ByteArray)) (w64 (i4 + 1))))
              (none)))
          (none))
        (none))
      (d (.x0 out3))
theorem roundref07_small_0 (K : PureK) {β : Type} (r : Env → Heap → Option β) (k : Ex → Env → Heap → Option β) (s : Sref07_small_0) : tellOne X K 0 65 0 [(0, 1, 0), (1, 1, 0), (2, 1, 0)] 0 clref07_small_0 cloref07_small_0 r k (Eref07_small_0 s) (Href07_small_0 s) = Rref07_small_0 K (Tref07_small_0 k) (fun s => r (Eref07_small_0 s) (Href07_small_0 s)) s := by
  cases s <;> kernel_rfl
theorem Oref07_small_0.bind_k {β γ : Type} (o : Oref07_small_0) (c0 : ByteArray → Option β) (φ : β → Option γ) : (Oref07_small_0.k o c0).bind φ = Oref07_small_0.k o (fun out3 => (c0 out3).bind φ) := by cases o <;> rfl
theorem natref07_small_0 (K : PureK) {β γ : Type} (φ : β → Option γ) (d : Oref07_small_0 → Option β) (r : Sref07_small_0 → Option β) (s : Sref07_small_0) : Rref07_small_0 K (fun o => (d o).bind φ) (fun s => (r s).bind φ) s = (Rref07_small_0 K d r s).bind φ := by
  cases s <;> simp only [Rref07_small_0, bind_optK, bind_br, bind_asInt, bind_asBool, bind_asStr, bind_asLst, bind_asAgg, bind_asTup, bind_asBig, bind_asErr, bind_none]
theorem outref07_small_0 (o : Oref07_small_0) : ∃ x e' h', ∀ {β : Type} (k : Ex → Env → Heap → Option β), Tref07_small_0 k o = k x e' h' := by cases o <;> exact ⟨_, _, _, fun _ => rfl⟩
theorem okref07_small_0 {K : PureK} (hX : Sound X) (hK : KOk X K) {lref07_small_0 : Sref07_small_0 → Option Oref07_small_0} (hl : ∀ s o, lref07_small_0 s = some o → ∃ m, fuelRec (Rref07_small_0 K some) m s = some o) (β : Type) (e : Env) (h : Heap) (k : Ex → Env → Heap → Option β) (r : β) (hr : (Fref07_small_0 lref07_small_0).run e h k = some r) : ∃ x e' h', k x e' h' = some r ∧ CodeAt X (.loop (loopBody (X).P 65 0)) e h x e' h' := by
  obtain ⟨fn, c, hin⟩ := loopIn_of (X := X) (f := 65) (i := 0) (key := 3) (by kernel_rfl)
  simp only [Fref07_small_0] at hr
  split at hr
  · rename_i hlen
    have hlen := Nat.eq_of_beq_eq_true hlen
    split at hr
    · rename_i q0 q3 q4
      obtain ⟨o, ho, hr⟩ := optK_some hr
      refine tell_ok hX (KOk.congr (X := X) (Y := X) rfl rfl hK) hin (E := Eref07_small_0) (H := Href07_small_0) (R := fun d r => Rref07_small_0 K d r) (T := Tref07_small_0) (ts := [(0, 1, 0), (1, 1, 0), (2, 1, 0)]) (len := 0) (cl := clref07_small_0) (clo := cloref07_small_0) (roundref07_small_0 K) (natref07_small_0 K) outref07_small_0 (hl _ _ ho) (cl0 := clref07_small_0) (ts0 := []) ?_ rfl (by kernel_rfl) (by kernel_rfl) hr
      rw [clear_lit e 29 hlen, show clearEnv clref07_small_0 ((List.range 29).map fun i => e.getD i .dead) = [e.getD 0 .dead, .dead, .dead, e.getD 3 .dead, e.getD 4 .dead, .dead, .dead, .dead, .dead, .dead, .dead, .dead, .dead, .dead, .dead, .dead, .dead, .dead, .dead, .dead, .dead, .dead, .dead, .dead, .dead, .dead, .dead, .dead, .dead] from by kernel_rfl]; rw [q0, q3, q4]
      kernel_rfl
    · cases hr
  · cases hr
noncomputable def Rref07_small (K : PureK) (lref07_small_0 : Sref07_small_0 → Option Oref07_small_0) (s0 : ByteArray) : Option AV :=
  optK (lref07_small_0 (Sref07_small_0.s0 s0 ({ data := #[] } : ByteArray) 0)) fun wo1 => Oref07_small_0.k wo1 (fun (out3_2 : ByteArray) =>
    some (sv out3_2))
theorem topref07_small (K : PureK) (lref07_small_0 : Sref07_small_0 → Option Oref07_small_0) (s0 : ByteArray) : topK (addLp X 65 3 (Fref07_small_0 lref07_small_0)) K 0 f_ref07_small [(.v (.string s0))] = Rref07_small K lref07_small_0 s0 := by kernel_rfl
theorem pcref07_small {K : PureK} (hK : KOk X K) {lref07_small_0 : Sref07_small_0 → Option Oref07_small_0} (href07_small_0 : ∀ s o, lref07_small_0 s = some o → ∃ m, fuelRec (Rref07_small_0 K some) m s = some o) {s0 : ByteArray} {v : AV} (h : Rref07_small K lref07_small_0 s0 = some v) : PureCall X f_ref07_small [(.v (.string s0))] v := by
  have hSo0 := soundX
  obtain ⟨_, _, hin0⟩ := loopIn_of (X := X) (f := 65) (i := 0) (key := 3) (by kernel_rfl)
  have hSo1 := sound_add hSo0 hin0 (okref07_small_0 hSo0 hK href07_small_0)
  exact tell_top (X := X) (Y := (addLp X 65 3 (Fref07_small_0 lref07_small_0))) rfl rfl hSo1 hK ((topref07_small K lref07_small_0 s0).trans h)

/-! 50: escheat/escheatref07.month -/
inductive Sref07_month_0 where
  | s0 (s0 : ByteArray) (m3 : Int)

inductive Oref07_month_0 where
  | x0 (t2 : Int)
  | x1

def Oref07_month_0.k {β : Type} (o : Oref07_month_0) (c0 : Int → Option β) (c1 : Option β) : Option β := match o with
  | .x0 t2 => c0 t2
  | .x1 => c1

def Eref07_month_0 : Sref07_month_0 → Env
  | .s0 s0 m3 => [(.v (.string s0)), .dead, .dead, (.v (.int .i64 m3)), .dead, .dead, .dead, .dead, .dead, .dead, .dead, .dead, .dead, .dead, .dead, .dead, .dead, .dead, .dead, .dead]

def Href07_month_0 : Sref07_month_0 → Heap
  | .s0 s0 m3 => []

def Tref07_month_0 {β : Type} (k : Ex → Env → Heap → Option β) (o : Oref07_month_0) : Option β := Oref07_month_0.k o (fun t2 => k .ret [.dead, .dead, (.v (.int .i64 t2)), .dead, .dead, .dead, .dead, .dead, .dead, .dead, .dead, .dead, .dead, .dead, .dead, .dead, .dead, .dead, .dead, .dead] []) (k (.exit 0) [.dead, .dead, .dead, .dead, .dead, .dead, .dead, .dead, .dead, .dead, .dead, .dead, .dead, .dead, .dead, .dead, .dead, .dead, .dead, .dead] [])

def Fref07_month_0 (lref07_month_0 : Sref07_month_0 → Option Oref07_month_0) : LoopF := ⟨fun e h k => match Nat.beq e.length 20 with
  | true => (match e.getD 0 .dead, e.getD 3 .dead, h with
    | (.v (.string s0)), (.v (.int .i64 m3)), [] => optK (lref07_month_0 (.s0 s0 m3)) (Tref07_month_0 k)
    | _, _, _ => none)
  | false => none⟩

def clref07_month_0 : List Tmp := [1, 2, 4, 5, 6, 7, 8, 9, 10, 11, 12, 13, 14, 15, 16, 17, 18, 19]
def cloref07_month_0 : List Tmp := [0, 1, 3, 4, 5, 6, 7, 8, 9, 10, 11, 12, 13, 14, 15, 16, 17, 18, 19]

noncomputable def Rref07_month_0 {β : Type} (K : PureK) (d : Oref07_month_0 → Option β) (r : Sref07_month_0 → Option β) : Sref07_month_0 → Option β
  | .s0 s0 m3 =>
    br (decide (m3 ≤ 12))
      (optK (K f_ref07_small [sv s0]) fun wv1 =>
      Ab.asStr wv1 fun ws2 =>
      optK (K f_ref07_months []) fun wv3 =>
      Ab.asStr wv3 fun ws4 =>
      br (decide (0 ≤ w64 (w64 (3 * m3) - 3)))
        (br (decide (w64 (w64 (3 * m3) - 3) ≤ w64 (3 * m3)))
          (br (decide (w64 (3 * m3) ≤ ((ws4.size : Nat) : Int)))
            (optK (K f_ref07_small [sv (cutStr ws4 (some (w64 (w64 (3 * m3) - 3))) (some (w64 (3 * m3))))]) fun wv5 =>
            Ab.asStr wv5 fun ws6 =>
            br (strEq ws2 ws6)
              (d (.x0 m3))
              (r (.s0 s0 (w64 (m3 + 1)))))
            (none))
          (none))
        (none))
      (d (.x1))
theorem roundref07_month_0 (K : PureK) {β : Type} (r : Env → Heap → Option β) (k : Ex → Env → Heap → Option β) (s : Sref07_month_0) : tellOne X K 0 50 0 [(0, 1, 0), (1, 1, 0), (2, 1, 0)] 0 clref07_month_0 cloref07_month_0 r k (Eref07_month_0 s) (Href07_month_0 s) = Rref07_month_0 K (Tref07_month_0 k) (fun s => r (Eref07_month_0 s) (Href07_month_0 s)) s := by
  cases s <;> kernel_rfl
theorem Oref07_month_0.bind_k {β γ : Type} (o : Oref07_month_0) (c0 : Int → Option β) (c1 : Option β) (φ : β → Option γ) : (Oref07_month_0.k o c0 c1).bind φ = Oref07_month_0.k o (fun t2 => (c0 t2).bind φ) (c1.bind φ) := by cases o <;> rfl
theorem natref07_month_0 (K : PureK) {β γ : Type} (φ : β → Option γ) (d : Oref07_month_0 → Option β) (r : Sref07_month_0 → Option β) (s : Sref07_month_0) : Rref07_month_0 K (fun o => (d o).bind φ) (fun s => (r s).bind φ) s = (Rref07_month_0 K d r s).bind φ := by
  cases s <;> simp only [Rref07_month_0, bind_optK, bind_br, bind_asInt, bind_asBool, bind_asStr, bind_asLst, bind_asAgg, bind_asTup, bind_asBig, bind_asErr, bind_none]
theorem outref07_month_0 (o : Oref07_month_0) : ∃ x e' h', ∀ {β : Type} (k : Ex → Env → Heap → Option β), Tref07_month_0 k o = k x e' h' := by cases o <;> exact ⟨_, _, _, fun _ => rfl⟩
theorem okref07_month_0 {K : PureK} (hX : Sound X) (hK : KOk X K) {lref07_month_0 : Sref07_month_0 → Option Oref07_month_0} (hl : ∀ s o, lref07_month_0 s = some o → ∃ m, fuelRec (Rref07_month_0 K some) m s = some o) (β : Type) (e : Env) (h : Heap) (k : Ex → Env → Heap → Option β) (r : β) (hr : (Fref07_month_0 lref07_month_0).run e h k = some r) : ∃ x e' h', k x e' h' = some r ∧ CodeAt X (.loop (loopBody (X).P 50 0)) e h x e' h' := by
  obtain ⟨fn, c, hin⟩ := loopIn_of (X := X) (f := 50) (i := 0) (key := 2) (by kernel_rfl)
  simp only [Fref07_month_0] at hr
  split at hr
  · rename_i hlen
    have hlen := Nat.eq_of_beq_eq_true hlen
    split at hr
    · rename_i q0 q3
      obtain ⟨o, ho, hr⟩ := optK_some hr
      refine tell_ok hX (KOk.congr (X := X) (Y := X) rfl rfl hK) hin (E := Eref07_month_0) (H := Href07_month_0) (R := fun d r => Rref07_month_0 K d r) (T := Tref07_month_0) (ts := [(0, 1, 0), (1, 1, 0), (2, 1, 0)]) (len := 0) (cl := clref07_month_0) (clo := cloref07_month_0) (roundref07_month_0 K) (natref07_month_0 K) outref07_month_0 (hl _ _ ho) (cl0 := clref07_month_0) (ts0 := []) ?_ rfl (by kernel_rfl) (by kernel_rfl) hr
      rw [clear_lit e 20 hlen, show clearEnv clref07_month_0 ((List.range 20).map fun i => e.getD i .dead) = [e.getD 0 .dead, .dead, .dead, e.getD 3 .dead, .dead, .dead, .dead, .dead, .dead, .dead, .dead, .dead, .dead, .dead, .dead, .dead, .dead, .dead, .dead, .dead] from by kernel_rfl]; rw [q0, q3]
      kernel_rfl
    · cases hr
  · cases hr
noncomputable def Rref07_month (K : PureK) (lref07_month_0 : Sref07_month_0 → Option Oref07_month_0) (s0 : ByteArray) : Option AV :=
  optK (lref07_month_0 (Sref07_month_0.s0 s0 1)) fun wo1 => Oref07_month_0.k wo1
      (fun (t2_2 : Int) => some (iv t2_2))
      (some (iv 0))
theorem topref07_month (K : PureK) (lref07_month_0 : Sref07_month_0 → Option Oref07_month_0) (s0 : ByteArray) : topK (addLp X 50 2 (Fref07_month_0 lref07_month_0)) K 0 f_ref07_month [(.v (.string s0))] = Rref07_month K lref07_month_0 s0 := by kernel_rfl
theorem pcref07_month {K : PureK} (hK : KOk X K) {lref07_month_0 : Sref07_month_0 → Option Oref07_month_0} (href07_month_0 : ∀ s o, lref07_month_0 s = some o → ∃ m, fuelRec (Rref07_month_0 K some) m s = some o) {s0 : ByteArray} {v : AV} (h : Rref07_month K lref07_month_0 s0 = some v) : PureCall X f_ref07_month [(.v (.string s0))] v := by
  have hSo0 := soundX
  obtain ⟨_, _, hin0⟩ := loopIn_of (X := X) (f := 50) (i := 0) (key := 2) (by kernel_rfl)
  have hSo1 := sound_add hSo0 hin0 (okref07_month_0 hSo0 hK href07_month_0)
  exact tell_top (X := X) (Y := (addLp X 50 2 (Fref07_month_0 lref07_month_0))) rfl rfl hSo1 hK ((topref07_month K lref07_month_0 s0).trans h)

/-! 38: escheat/escheatref07.months -/
noncomputable def Rref07_months (K : PureK) : Option AV :=
  some (sv ({ data := #[74, 97, 110, 70, 101, 98, 77, 97, 114, 65, 112, 114, 77, 97, 121, 74, 117, 110, 74, 117, 108, 65, 117, 103, 83, 101, 112, 79, 99, 116, 78, 111, 118, 68, 101, 99] } : ByteArray))
theorem topref07_months (K : PureK) : topK X K 0 f_ref07_months [] = Rref07_months K := by kernel_rfl
theorem pcref07_months {K : PureK} (hK : KOk X K) {v : AV} (h : Rref07_months K = some v) : PureCall X f_ref07_months [] v := by
  have hSo0 := soundX
  exact tell_top (X := X) (Y := X) rfl rfl hSo0 hK ((topref07_months K).trans h)

/-! 25: escheat/escheatref07.split -/
inductive Sref07_split_0 where
  | s0 (s0 : ByteArray) (c1 : Int) (i6 : Int) (obj0 : List AV)

inductive Oref07_split_0 where
  | x0 (obj0 : List AV)

def Oref07_split_0.k {β : Type} (o : Oref07_split_0) (c0 : (List AV) → Option β) : Option β := match o with
  | .x0 obj0 => c0 obj0

def Eref07_split_0 : Sref07_split_0 → Env
  | .s0 s0 c1 i6 obj0 => [(.v (.string s0)), (.v (.int .u8 c1)), .dead, .dead, .dead, (.own 0 1 0 none), (.v (.int .i64 i6)), .dead, .dead, .dead, .dead, .dead, .dead, .dead, .dead, .dead, .dead, .dead, .dead, .dead, .dead, .dead, .dead, .dead, .dead, .dead, .dead, .dead, .dead, .dead, .dead, .dead, .dead, .dead, .dead, .dead, .dead, .dead, .dead, .dead]

def Href07_split_0 : Sref07_split_0 → Heap
  | .s0 s0 c1 i6 obj0 => [⟨obj0, 1, 0, true, false, 9, 1, none⟩]

def Tref07_split_0 {β : Type} (k : Ex → Env → Heap → Option β) (o : Oref07_split_0) : Option β := Oref07_split_0.k o (fun obj0 => k (.exit 0) [.dead, .dead, .dead, .dead, .dead, (.own 0 1 0 none), .dead, .dead, .dead, .dead, .dead, .dead, .dead, .dead, .dead, .dead, .dead, .dead, .dead, .dead, .dead, .dead, .dead, .dead, .dead, .dead, .dead, .dead, .dead, .dead, .dead, .dead, .dead, .dead, .dead, .dead, .dead, .dead, .dead, .dead] [⟨obj0, 1, 0, true, false, 9, 1, none⟩])

def Fref07_split_0 (lref07_split_0 : Sref07_split_0 → Option Oref07_split_0) : LoopF := ⟨fun e h k => match Nat.beq e.length 40 with
  | true => (match e.getD 0 .dead, e.getD 1 .dead, e.getD 5 .dead, e.getD 6 .dead, h with
    | (.v (.string s0)), (.v (.int .u8 c1)), (.own 0 0 0 none), (.v (.int .i64 i6)), [⟨obj0, 0, 0, true, false, 9, 1, none⟩] => optK (lref07_split_0 (.s0 s0 c1 i6 obj0)) (Tref07_split_0 k)
    | _, _, _, _, _ => none)
  | false => none⟩

def clref07_split_0 : List Tmp := [2, 3, 4, 7, 8, 9, 10, 11, 12, 13, 14, 15, 16, 17, 18, 19, 20, 21, 22, 23, 24, 25, 26, 27, 28, 29, 30, 31, 32, 33, 34, 35, 36, 37, 38, 39]
def cloref07_split_0 : List Tmp := [0, 1, 2, 3, 4, 6, 7, 8, 9, 10, 11, 12, 13, 14, 15, 16, 17, 18, 19, 20, 21, 22, 23, 24, 25, 26, 27, 28, 29, 30, 31, 32, 33, 34, 35, 36, 37, 38, 39]

noncomputable def Rref07_split_0 {β : Type} (K : PureK) (d : Oref07_split_0 → Option β) (r : Sref07_split_0 → Option β) : Sref07_split_0 → Option β
  | .s0 s0 c1 i6 obj0 =>
    br (decide (i6 < ((s0.size : Nat) : Int)))
      (br (decide (0 ≤ i6))
        (br (decide (i6 < ((s0.size : Nat) : Int)))
          (br (bt s0 i6.toNat == c1)
            (br (lenOk (obj0.length + 1) 16 && lenOk (obj0.length + 1) 1)
              (r (.s0 s0 c1 (w64 (i6 + 1)) (obj0 ++ [sv ({ data := #[] } : ByteArray)])))
              (none))
            (br (decide (0 ≤ w64 (((obj0.length : Nat) : Int) - 1)))
              (br (decide (w64 (((obj0.length : Nat) : Int) - 1) < ((obj0.length : Nat) : Int)))
                (optK (obj0[0 + (w64 (((obj0.length : Nat) : Int) - 1)).toNat]?) fun wv1 =>
                Ab.asStr wv1 fun ws2 =>
                br (decide (0 ≤ i6))
                  (br (decide (i6 ≤ w64 (i6 + 1)))
                    (br (decide (w64 (i6 + 1) ≤ ((s0.size : Nat) : Int)))
                      (br ((ws2.size + (cutStr s0 (some i6) (some (w64 (i6 + 1)))).size).ble maxStr)
                        (br (decide (0 ≤ w64 (((obj0.length : Nat) : Int) - 1)))
                          (br (decide (w64 (((obj0.length : Nat) : Int) - 1) < ((obj0.length : Nat) : Int)))
                            (r (.s0 s0 c1 (w64 (i6 + 1)) (obj0.set (0 + (w64 (((obj0.length : Nat) : Int) - 1)).toNat) (sv (catStr ws2 (cutStr s0 (some i6) (some (w64 (i6 + 1)))))))))
                            (none))
                          (none))
                        (none))
                      (none))
                    (none))
                  (none))
                (none))
              (none)))
          (none))
        (none))
      (d (.x0 obj0))
theorem roundref07_split_0 (K : PureK) {β : Type} (r : Env → Heap → Option β) (k : Ex → Env → Heap → Option β) (s : Sref07_split_0) : tellOne X K 0 25 0 [(0, 1, 0), (1, 1, 0), (2, 1, 0), (3, 1, 0)] 1 clref07_split_0 cloref07_split_0 r k (Eref07_split_0 s) (Href07_split_0 s) = Rref07_split_0 K (Tref07_split_0 k) (fun s => r (Eref07_split_0 s) (Href07_split_0 s)) s := by
  cases s <;> kernel_rfl
theorem Oref07_split_0.bind_k {β γ : Type} (o : Oref07_split_0) (c0 : (List AV) → Option β) (φ : β → Option γ) : (Oref07_split_0.k o c0).bind φ = Oref07_split_0.k o (fun obj0 => (c0 obj0).bind φ) := by cases o <;> rfl
theorem natref07_split_0 (K : PureK) {β γ : Type} (φ : β → Option γ) (d : Oref07_split_0 → Option β) (r : Sref07_split_0 → Option β) (s : Sref07_split_0) : Rref07_split_0 K (fun o => (d o).bind φ) (fun s => (r s).bind φ) s = (Rref07_split_0 K d r s).bind φ := by
  cases s <;> simp only [Rref07_split_0, bind_optK, bind_br, bind_asInt, bind_asBool, bind_asStr, bind_asLst, bind_asAgg, bind_asTup, bind_asBig, bind_asErr, bind_none]
theorem outref07_split_0 (o : Oref07_split_0) : ∃ x e' h', ∀ {β : Type} (k : Ex → Env → Heap → Option β), Tref07_split_0 k o = k x e' h' := by cases o <;> exact ⟨_, _, _, fun _ => rfl⟩
theorem okref07_split_0 {K : PureK} (hX : Sound X) (hK : KOk X K) {lref07_split_0 : Sref07_split_0 → Option Oref07_split_0} (hl : ∀ s o, lref07_split_0 s = some o → ∃ m, fuelRec (Rref07_split_0 K some) m s = some o) (β : Type) (e : Env) (h : Heap) (k : Ex → Env → Heap → Option β) (r : β) (hr : (Fref07_split_0 lref07_split_0).run e h k = some r) : ∃ x e' h', k x e' h' = some r ∧ CodeAt X (.loop (loopBody (X).P 25 0)) e h x e' h' := by
  obtain ⟨fn, c, hin⟩ := loopIn_of (X := X) (f := 25) (i := 0) (key := 3) (by kernel_rfl)
  simp only [Fref07_split_0] at hr
  split at hr
  · rename_i hlen
    have hlen := Nat.eq_of_beq_eq_true hlen
    split at hr
    · rename_i q0 q1 q5 q6
      obtain ⟨o, ho, hr⟩ := optK_some hr
      refine tell_ok hX (KOk.congr (X := X) (Y := X) rfl rfl hK) hin (E := Eref07_split_0) (H := Href07_split_0) (R := fun d r => Rref07_split_0 K d r) (T := Tref07_split_0) (ts := [(0, 1, 0), (1, 1, 0), (2, 1, 0), (3, 1, 0)]) (len := 1) (cl := clref07_split_0) (clo := cloref07_split_0) (roundref07_split_0 K) (natref07_split_0 K) outref07_split_0 (hl _ _ ho) (cl0 := clref07_split_0) (ts0 := [(0, 1, 0)]) ?_ rfl (by kernel_rfl) (by kernel_rfl) hr
      rw [clear_lit e 40 hlen, show clearEnv clref07_split_0 ((List.range 40).map fun i => e.getD i .dead) = [e.getD 0 .dead, e.getD 1 .dead, .dead, .dead, .dead, e.getD 5 .dead, e.getD 6 .dead, .dead, .dead, .dead, .dead, .dead, .dead, .dead, .dead, .dead, .dead, .dead, .dead, .dead, .dead, .dead, .dead, .dead, .dead, .dead, .dead, .dead, .dead, .dead, .dead, .dead, .dead, .dead, .dead, .dead, .dead, .dead, .dead, .dead] from by kernel_rfl]; rw [q0, q1, q5, q6]
      kernel_rfl
    · cases hr
  · cases hr
noncomputable def Rref07_split (K : PureK) (lref07_split_0 : Sref07_split_0 → Option Oref07_split_0) (s0 : ByteArray) (c1 : Int) : Option AV :=
  optK (lref07_split_0 (Sref07_split_0.s0 s0 c1 0 [sv ({ data := #[] } : ByteArray)])) fun wo1 => Oref07_split_0.k wo1 (fun (obj0_2 : List AV) =>
    some (AV.lst 1 false obj0_2))
theorem topref07_split (K : PureK) (lref07_split_0 : Sref07_split_0 → Option Oref07_split_0) (s0 : ByteArray) (c1 : Int) : topK (addLp X 25 3 (Fref07_split_0 lref07_split_0)) K 0 f_ref07_split [(.v (.string s0)), (.v (.int .u8 c1))] = Rref07_split K lref07_split_0 s0 c1 := by kernel_rfl
theorem pcref07_split {K : PureK} (hK : KOk X K) {lref07_split_0 : Sref07_split_0 → Option Oref07_split_0} (href07_split_0 : ∀ s o, lref07_split_0 s = some o → ∃ m, fuelRec (Rref07_split_0 K some) m s = some o) {s0 : ByteArray} {c1 : Int} {v : AV} (h : Rref07_split K lref07_split_0 s0 c1 = some v) : PureCall X f_ref07_split [(.v (.string s0)), (.v (.int .u8 c1))] v := by
  have hSo0 := soundX
  obtain ⟨_, _, hin0⟩ := loopIn_of (X := X) (f := 25) (i := 0) (key := 3) (by kernel_rfl)
  have hSo1 := sound_add hSo0 hin0 (okref07_split_0 hSo0 hK href07_split_0)
  exact tell_top (X := X) (Y := (addLp X 25 3 (Fref07_split_0 lref07_split_0))) rfl rfl hSo1 hK ((topref07_split K lref07_split_0 s0 c1).trans h)

/-! 26: escheat/escheatref07.ymd -/
noncomputable def Rref07_ymd (K : PureK) (d0 : ByteArray) (m1 : ByteArray) (y2 : ByteArray) : Option AV :=
  optK (K f_ref07_num [sv d0, iv 1, iv 2]) fun wv1 =>
    Ab.asInt wv1 .i64 fun wn2 =>
    optK (K f_ref07_month [sv m1]) fun wv3 =>
    Ab.asInt wv3 .i64 fun wn4 =>
    optK (K f_ref07_num [sv y2, iv 4, iv 4]) fun wv5 =>
    Ab.asInt wv5 .i64 fun wn6 =>
    optK (br (decide (wn2 < 0))
        (some (bv true))
        (br (wn4 == 0)
          (some (bv true))
          (br (decide (wn6 < 0))
            (some (bv true))
            (optK (K f_ref07_there [iv wn6, iv wn4, iv wn2]) fun wv8 =>
            Ab.asBool wv8 fun wb9 =>
            some (bv !wb9))))) fun wv7 =>
    Ab.asBool wv7 fun wb10 =>
    br wb10
      (some (AV.tup [iv 0, bv false]))
      (optK (K f_ref07_number [iv wn6, iv wn4, iv wn2]) fun wv11 =>
      Ab.asInt wv11 .i64 fun wn12 =>
      some (AV.tup [iv wn12, bv true]))
theorem topref07_ymd (K : PureK) (d0 : ByteArray) (m1 : ByteArray) (y2 : ByteArray) : topK X K 0 f_ref07_ymd [(.v (.string d0)), (.v (.string m1)), (.v (.string y2))] = Rref07_ymd K d0 m1 y2 := by kernel_rfl
theorem pcref07_ymd {K : PureK} (hK : KOk X K) {d0 : ByteArray} {m1 : ByteArray} {y2 : ByteArray} {v : AV} (h : Rref07_ymd K d0 m1 y2 = some v) : PureCall X f_ref07_ymd [(.v (.string d0)), (.v (.string m1)), (.v (.string y2))] v := by
  have hSo0 := soundX
  exact tell_top (X := X) (Y := X) rfl rfl hSo0 hK ((topref07_ymd K d0 m1 y2).trans h)

/-! 27: escheat/escheatref07.clock -/
noncomputable def Rref07_clock (K : PureK) (s0 : ByteArray) (short1 : Bool) : Option AV :=
  optK (K f_ref07_split [sv s0, uv 58]) fun wv1 =>
    Ab.asLst wv1 1 fun wb2 wr2 =>
    optK (br (((wr2.length : Nat) : Int) != 3)
        (br short1
          (some (bv !((wr2.length : Nat) : Int) == 2))
          (some (bv true)))
        (some (bv false))) fun wv3 =>
    Ab.asBool wv3 fun wb4 =>
    br wb4
      (some (iv (-1)))
      (br (decide (0 < ((wr2.length : Nat) : Int)))
        (optK wr2[0]? fun wv5 =>
        Ab.asStr wv5 fun ws6 =>
        optK (K f_ref07_num [sv ws6, iv 2, iv 2]) fun wv7 =>
        Ab.asInt wv7 .i64 fun wn8 =>
        br (decide (1 < ((wr2.length : Nat) : Int)))
          (optK wr2[1]? fun wv9 =>
          Ab.asStr wv9 fun ws10 =>
          optK (K f_ref07_num [sv ws10, iv 2, iv 2]) fun wv11 =>
          Ab.asInt wv11 .i64 fun wn12 =>
          br (((wr2.length : Nat) : Int) == 3)
            (br (decide (2 < ((wr2.length : Nat) : Int)))
              (optK wr2[2]? fun wv13 =>
              Ab.asStr wv13 fun ws14 =>
              optK (K f_ref07_num [sv ws14, iv 2, iv 2]) fun wv15 =>
              Ab.asInt wv15 .i64 fun wn16 =>
              optK (br (decide (wn8 < 0))
                  (some (bv true))
                  (br (decide (wn8 > 23))
                    (some (bv true))
                    (br (decide (wn12 < 0))
                      (some (bv true))
                      (br (decide (wn12 > 59))
                        (some (bv true))
                        (br (decide (wn16 < 0))
                          (some (bv true))
                          (some (bv (decide (wn16 > 59))))))))) fun wv17 =>
              Ab.asBool wv17 fun wb18 =>
              br wb18
                (some (iv (-1)))
                (some (iv (w64 (w64 (w64 (wn8 * 3600) + w64 (wn12 * 60)) + wn16)))))
              (none))
            (optK (br (decide (wn8 < 0))
                (some (bv true))
                (br (decide (wn8 > 23))
                  (some (bv true))
                  (br (decide (wn12 < 0))
                    (some (bv true))
                    (br (decide (wn12 > 59))
                      (some (bv true))
                      (some (bv false)))))) fun wv19 =>
            Ab.asBool wv19 fun wb20 =>
            br wb20
              (some (iv (-1)))
              (some (iv (w64 (w64 (w64 (wn8 * 3600) + w64 (wn12 * 60)) + 0))))))
          (none))
        (none))
theorem topref07_clock (K : PureK) (s0 : ByteArray) (short1 : Bool) : topK X K 0 f_ref07_clock [(.v (.string s0)), (.v (.bool short1))] = Rref07_clock K s0 short1 := by kernel_rfl
theorem pcref07_clock {K : PureK} (hK : KOk X K) {s0 : ByteArray} {short1 : Bool} {v : AV} (h : Rref07_clock K s0 short1 = some v) : PureCall X f_ref07_clock [(.v (.string s0)), (.v (.bool short1))] v := by
  have hSo0 := soundX
  exact tell_top (X := X) (Y := X) rfl rfl hSo0 hK ((topref07_clock K s0 short1).trans h)

/-! 28: escheat/escheatref07.zone -/
noncomputable def Rref07_zone (K : PureK) (s0 : ByteArray) : Option AV :=
  optK (br (((s0.size : Nat) : Int) != 5)
        (some (bv true))
        (br (decide (0 < ((s0.size : Nat) : Int)))
          (br (bt s0 0 != 43)
            (br (decide (0 < ((s0.size : Nat) : Int)))
              (some (bv (bt s0 0 != 45)))
              (none))
            (some (bv false)))
          (none))) fun wv1 =>
    Ab.asBool wv1 fun wb2 =>
    br wb2
      (some (AV.tup [iv 0, bv false]))
      (br (decide (3 ≤ ((s0.size : Nat) : Int)))
        (optK (K f_ref07_num [sv (cutStr s0 (some 1) (some 3)), iv 2, iv 2]) fun wv3 =>
        Ab.asInt wv3 .i64 fun wn4 =>
        br (decide (3 ≤ ((s0.size : Nat) : Int)))
          (optK (K f_ref07_num [sv (cutStr s0 (some 3) none), iv 2, iv 2]) fun wv5 =>
          Ab.asInt wv5 .i64 fun wn6 =>
          optK (br (decide (wn4 < 0))
              (some (bv true))
              (br (decide (wn6 < 0))
                (some (bv true))
                (some (bv (decide (wn6 > 59)))))) fun wv7 =>
          Ab.asBool wv7 fun wb8 =>
          br wb8
            (some (AV.tup [iv 0, bv false]))
            (br (decide (0 < ((s0.size : Nat) : Int)))
              (br (bt s0 0 == 45)
                (some (AV.tup [iv (w64 (0 - w64 (w64 (wn4 * 3600) + w64 (wn6 * 60)))), bv true]))
                (some (AV.tup [iv (w64 (w64 (wn4 * 3600) + w64 (wn6 * 60))), bv true])))
              (none)))
          (none))
        (none))
theorem topref07_zone (K : PureK) (s0 : ByteArray) : topK X K 0 f_ref07_zone [(.v (.string s0))] = Rref07_zone K s0 := by kernel_rfl
theorem pcref07_zone {K : PureK} (hK : KOk X K) {s0 : ByteArray} {v : AV} (h : Rref07_zone K s0 = some v) : PureCall X f_ref07_zone [(.v (.string s0))] v := by
  have hSo0 := soundX
  exact tell_top (X := X) (Y := X) rfl rfl hSo0 hK ((topref07_zone K s0).trans h)

/-! 7: escheat/escheatref07.Parse -/
inductive Sref07_Parse_ref07_split_0 where
  | s0 (s0 : ByteArray) (c1 : Int) (i6 : Int) (obj0 : List AV)

inductive Oref07_Parse_ref07_split_0 where
  | x0 (obj0 : List AV)

def Oref07_Parse_ref07_split_0.k {β : Type} (o : Oref07_Parse_ref07_split_0) (c0 : (List AV) → Option β) : Option β := match o with
  | .x0 obj0 => c0 obj0

def Eref07_Parse_ref07_split_0 : Sref07_Parse_ref07_split_0 → Env
  | .s0 s0 c1 i6 obj0 => [(.v (.string s0)), (.v (.int .u8 c1)), .dead, .dead, .dead, (.own 0 1 0 none), (.v (.int .i64 i6)), .dead, .dead, .dead, .dead, .dead, .dead, .dead, .dead, .dead, .dead, .dead, .dead, .dead, .dead, .dead, .dead, .dead, .dead, .dead, .dead, .dead, .dead, .dead, .dead, .dead, .dead, .dead, .dead, .dead, .dead, .dead, .dead, .dead]

def Href07_Parse_ref07_split_0 : Sref07_Parse_ref07_split_0 → Heap
  | .s0 s0 c1 i6 obj0 => [⟨obj0, 1, 0, true, false, 9, 1, none⟩]

def Tref07_Parse_ref07_split_0 {β : Type} (k : Ex → Env → Heap → Option β) (o : Oref07_Parse_ref07_split_0) : Option β := Oref07_Parse_ref07_split_0.k o (fun obj0 => k (.exit 0) [.dead, .dead, .dead, .dead, .dead, (.own 0 1 0 none), .dead, .dead, .dead, .dead, .dead, .dead, .dead, .dead, .dead, .dead, .dead, .dead, .dead, .dead, .dead, .dead, .dead, .dead, .dead, .dead, .dead, .dead, .dead, .dead, .dead, .dead, .dead, .dead, .dead, .dead, .dead, .dead, .dead, .dead] [⟨obj0, 1, 0, true, false, 9, 1, none⟩])

def Fref07_Parse_ref07_split_0 (lref07_Parse_ref07_split_0 : Sref07_Parse_ref07_split_0 → Option Oref07_Parse_ref07_split_0) : LoopF := ⟨fun e h k => match Nat.beq e.length 40 with
  | true => (match e.getD 0 .dead, e.getD 1 .dead, e.getD 5 .dead, e.getD 6 .dead, h with
    | (.v (.string s0)), (.v (.int .u8 c1)), (.own 0 0 0 none), (.v (.int .i64 i6)), [⟨obj0, 0, 0, true, false, 9, 1, none⟩] => optK (lref07_Parse_ref07_split_0 (.s0 s0 c1 i6 obj0)) (Tref07_Parse_ref07_split_0 k)
    | _, _, _, _, _ => none)
  | false => none⟩

def clref07_Parse_ref07_split_0 : List Tmp := [2, 3, 4, 7, 8, 9, 10, 11, 12, 13, 14, 15, 16, 17, 18, 19, 20, 21, 22, 23, 24, 25, 26, 27, 28, 29, 30, 31, 32, 33, 34, 35, 36, 37, 38, 39]
def cloref07_Parse_ref07_split_0 : List Tmp := [0, 1, 2, 3, 4, 6, 7, 8, 9, 10, 11, 12, 13, 14, 15, 16, 17, 18, 19, 20, 21, 22, 23, 24, 25, 26, 27, 28, 29, 30, 31, 32, 33, 34, 35, 36, 37, 38, 39]

noncomputable def Rref07_Parse_ref07_split_0 {β : Type} (K : PureK) (d : Oref07_Parse_ref07_split_0 → Option β) (r : Sref07_Parse_ref07_split_0 → Option β) : Sref07_Parse_ref07_split_0 → Option β
  | .s0 s0 c1 i6 obj0 =>
    br (decide (i6 < ((s0.size : Nat) : Int)))
      (br (decide (0 ≤ i6))
        (br (decide (i6 < ((s0.size : Nat) : Int)))
          (br (bt s0 i6.toNat == c1)
            (br (lenOk (obj0.length + 1) 16 && lenOk (obj0.length + 1) 1)
              (r (.s0 s0 c1 (w64 (i6 + 1)) (obj0 ++ [sv ({ data := #[] } : ByteArray)])))
              (none))
            (br (decide (0 ≤ w64 (((obj0.length : Nat) : Int) - 1)))
              (br (decide (w64 (((obj0.length : Nat) : Int) - 1) < ((obj0.length : Nat) : Int)))
                (optK (obj0[0 + (w64 (((obj0.length : Nat) : Int) - 1)).toNat]?) fun wv1 =>
                Ab.asStr wv1 fun ws2 =>
                br (decide (0 ≤ i6))
                  (br (decide (i6 ≤ w64 (i6 + 1)))
                    (br (decide (w64 (i6 + 1) ≤ ((s0.size : Nat) : Int)))
                      (br ((ws2.size + (cutStr s0 (some i6) (some (w64 (i6 + 1)))).size).ble maxStr)
                        (br (decide (0 ≤ w64 (((obj0.length : Nat) : Int) - 1)))
                          (br (decide (w64 (((obj0.length : Nat) : Int) - 1) < ((obj0.length : Nat) : Int)))
                            (r (.s0 s0 c1 (w64 (i6 + 1)) (obj0.set (0 + (w64 (((obj0.length : Nat) : Int) - 1)).toNat) (sv (catStr ws2 (cutStr s0 (some i6) (some (w64 (i6 + 1)))))))))
                            (none))
                          (none))
                        (none))
                      (none))
                    (none))
                  (none))
                (none))
              (none)))
          (none))
        (none))
      (d (.x0 obj0))
theorem roundref07_Parse_ref07_split_0 (K : PureK) {β : Type} (r : Env → Heap → Option β) (k : Ex → Env → Heap → Option β) (s : Sref07_Parse_ref07_split_0) : tellOne (withInl X [25]) K 0 25 0 [(0, 1, 0), (1, 1, 0), (2, 1, 0), (3, 1, 0)] 1 clref07_Parse_ref07_split_0 cloref07_Parse_ref07_split_0 r k (Eref07_Parse_ref07_split_0 s) (Href07_Parse_ref07_split_0 s) = Rref07_Parse_ref07_split_0 K (Tref07_Parse_ref07_split_0 k) (fun s => r (Eref07_Parse_ref07_split_0 s) (Href07_Parse_ref07_split_0 s)) s := by
  cases s <;> kernel_rfl
theorem Oref07_Parse_ref07_split_0.bind_k {β γ : Type} (o : Oref07_Parse_ref07_split_0) (c0 : (List AV) → Option β) (φ : β → Option γ) : (Oref07_Parse_ref07_split_0.k o c0).bind φ = Oref07_Parse_ref07_split_0.k o (fun obj0 => (c0 obj0).bind φ) := by cases o <;> rfl
theorem natref07_Parse_ref07_split_0 (K : PureK) {β γ : Type} (φ : β → Option γ) (d : Oref07_Parse_ref07_split_0 → Option β) (r : Sref07_Parse_ref07_split_0 → Option β) (s : Sref07_Parse_ref07_split_0) : Rref07_Parse_ref07_split_0 K (fun o => (d o).bind φ) (fun s => (r s).bind φ) s = (Rref07_Parse_ref07_split_0 K d r s).bind φ := by
  cases s <;> simp only [Rref07_Parse_ref07_split_0, bind_optK, bind_br, bind_asInt, bind_asBool, bind_asStr, bind_asLst, bind_asAgg, bind_asTup, bind_asBig, bind_asErr, bind_none]
theorem outref07_Parse_ref07_split_0 (o : Oref07_Parse_ref07_split_0) : ∃ x e' h', ∀ {β : Type} (k : Ex → Env → Heap → Option β), Tref07_Parse_ref07_split_0 k o = k x e' h' := by cases o <;> exact ⟨_, _, _, fun _ => rfl⟩
theorem okref07_Parse_ref07_split_0 {K : PureK} (hX : Sound (withInl X [25])) (hK : KOk X K) {lref07_Parse_ref07_split_0 : Sref07_Parse_ref07_split_0 → Option Oref07_Parse_ref07_split_0} (hl : ∀ s o, lref07_Parse_ref07_split_0 s = some o → ∃ m, fuelRec (Rref07_Parse_ref07_split_0 K some) m s = some o) (β : Type) (e : Env) (h : Heap) (k : Ex → Env → Heap → Option β) (r : β) (hr : (Fref07_Parse_ref07_split_0 lref07_Parse_ref07_split_0).run e h k = some r) : ∃ x e' h', k x e' h' = some r ∧ CodeAt (withInl X [25]) (.loop (loopBody ((withInl X [25])).P 25 0)) e h x e' h' := by
  obtain ⟨fn, c, hin⟩ := loopIn_of (X := (withInl X [25])) (f := 25) (i := 0) (key := 3) (by kernel_rfl)
  simp only [Fref07_Parse_ref07_split_0] at hr
  split at hr
  · rename_i hlen
    have hlen := Nat.eq_of_beq_eq_true hlen
    split at hr
    · rename_i q0 q1 q5 q6
      obtain ⟨o, ho, hr⟩ := optK_some hr
      refine tell_ok hX (KOk.congr (X := X) (Y := (withInl X [25])) rfl rfl hK) hin (E := Eref07_Parse_ref07_split_0) (H := Href07_Parse_ref07_split_0) (R := fun d r => Rref07_Parse_ref07_split_0 K d r) (T := Tref07_Parse_ref07_split_0) (ts := [(0, 1, 0), (1, 1, 0), (2, 1, 0), (3, 1, 0)]) (len := 1) (cl := clref07_Parse_ref07_split_0) (clo := cloref07_Parse_ref07_split_0) (roundref07_Parse_ref07_split_0 K) (natref07_Parse_ref07_split_0 K) outref07_Parse_ref07_split_0 (hl _ _ ho) (cl0 := clref07_Parse_ref07_split_0) (ts0 := [(0, 1, 0)]) ?_ rfl (by kernel_rfl) (by kernel_rfl) hr
      rw [clear_lit e 40 hlen, show clearEnv clref07_Parse_ref07_split_0 ((List.range 40).map fun i => e.getD i .dead) = [e.getD 0 .dead, e.getD 1 .dead, .dead, .dead, .dead, e.getD 5 .dead, e.getD 6 .dead, .dead, .dead, .dead, .dead, .dead, .dead, .dead, .dead, .dead, .dead, .dead, .dead, .dead, .dead, .dead, .dead, .dead, .dead, .dead, .dead, .dead, .dead, .dead, .dead, .dead, .dead, .dead, .dead, .dead, .dead, .dead, .dead, .dead] from by kernel_rfl]; rw [q0, q1, q5, q6]
      kernel_rfl
    · cases hr
  · cases hr
noncomputable def Rref07_Parse (K : PureK) (lref07_Parse_ref07_split_0 : Sref07_Parse_ref07_split_0 → Option Oref07_Parse_ref07_split_0) (s0 : ByteArray) : Option AV :=
  optK (br (((s0.size : Nat) : Int) != 26)
        (some (bv true))
        (br (decide (11 < ((s0.size : Nat) : Int)))
          (br (bt s0 11 != 32)
            (some (bv true))
            (br (decide (20 < ((s0.size : Nat) : Int)))
              (some (bv (bt s0 20 != 32)))
              (none)))
          (none))) fun wv3 =>
    Ab.asBool wv3 fun wb4 =>
    br wb4
      (some (AV.tup [iv 0, iv 3]))
      (br (decide (11 ≤ ((s0.size : Nat) : Int)))
        (optK (lref07_Parse_ref07_split_0 (Sref07_Parse_ref07_split_0.s0 (cutStr s0 none (some 11)) 45 0 [sv ({ data := #[] } : ByteArray)])) fun wo5 => Oref07_Parse_ref07_split_0.k wo5 (fun (obj0_6 : List AV) =>
        optK (br (((obj0_6.length : Nat) : Int) != 3)
            (some (bv true))
            (br (decide (0 < ((obj0_6.length : Nat) : Int)))
              (optK obj0_6[0]? fun wv8 =>
              Ab.asStr wv8 fun ws9 =>
              some (bv (((ws9.size : Nat) : Int) != 2)))
              (none))) fun wv7 =>
        Ab.asBool wv7 fun wb10 =>
        br wb10
          (some (AV.tup [iv 0, iv 3]))
          (br (decide (0 < ((obj0_6.length : Nat) : Int)))
            (optK obj0_6[0]? fun wv11 =>
            Ab.asStr wv11 fun ws12 =>
            br (decide (0 < ((ws12.size : Nat) : Int)))
              (br (bt ws12 0 == 32)
                (br (decide (0 < ((obj0_6.length : Nat) : Int)))
                  (optK obj0_6[0]? fun wv13 =>
                  Ab.asStr wv13 fun ws14 =>
                  br (decide (1 ≤ ((ws14.size : Nat) : Int)))
                    (br (decide (0 < ((obj0_6.length : Nat) : Int)))
                      (br (decide (0 < (((obj0_6.set 0 (sv (cutStr ws14 (some 1) none))).length : Nat) : Int)))
                        (optK ((obj0_6.set 0 (sv (cutStr ws14 (some 1) none)))[0]?) fun wv15 =>
                        Ab.asStr wv15 fun ws16 =>
                        br (decide (1 < (((obj0_6.set 0 (sv (cutStr ws14 (some 1) none))).length : Nat) : Int)))
                          (optK ((obj0_6.set 0 (sv (cutStr ws14 (some 1) none)))[1]?) fun wv17 =>
                          Ab.asStr wv17 fun ws18 =>
                          br (decide (2 < (((obj0_6.set 0 (sv (cutStr ws14 (some 1) none))).length : Nat) : Int)))
                            (optK ((obj0_6.set 0 (sv (cutStr ws14 (some 1) none)))[2]?) fun wv19 =>
                            Ab.asStr wv19 fun ws20 =>
                            optK (K f_ref07_ymd [sv ws16, sv ws18, sv ws20]) fun wv21 =>
                            Ab.asTup wv21 2 fun wg22 =>
                            Ab.asInt (wg22 0) .i64 fun wn23 =>
                            Ab.asBool (wg22 1) fun wb24 =>
                            br (decide (20 ≤ ((s0.size : Nat) : Int)))
                              (optK (K f_ref07_clock [sv (cutStr s0 (some 12) (some 20)), bv false]) fun wv25 =>
                              Ab.asInt wv25 .i64 fun wn26 =>
                              br (decide (21 ≤ ((s0.size : Nat) : Int)))
                                (optK (K f_ref07_zone [sv (cutStr s0 (some 21) none)]) fun wv27 =>
                                Ab.asTup wv27 2 fun wg28 =>
                                Ab.asInt (wg28 0) .i64 fun wn29 =>
                                Ab.asBool (wg28 1) fun wb30 =>
                                optK (br (!wb24)
                                    (some (bv true))
                                    (br (decide (wn26 < 0))
                                      (some (bv true))
                                      (some (bv !wb30)))) fun wv31 =>
                                Ab.asBool wv31 fun wb32 =>
                                br wb32
                                  (some (AV.tup [iv 0, iv 3]))
                                  (optK (br (decide (w64 (w64 (w64 (wn23 * 86400) + wn26) - wn29) < 0))
                                      (some (bv true))
                                      (some (bv (decide (w64 (w64 (w64 (wn23 * 86400) + wn26) - wn29) > 253402300799))))) fun wv33 =>
                                  Ab.asBool wv33 fun wb34 =>
                                  br wb34
                                    (some (AV.tup [iv 0, iv 15]))
                                    (some (AV.tup [iv (w64 (w64 (w64 (wn23 * 86400) + wn26) - wn29)), iv 0]))))
                                (none))
                              (none))
                            (none))
                          (none))
                        (none))
                      (none))
                    (none))
                  (none))
                (br (decide (0 < ((obj0_6.length : Nat) : Int)))
                  (optK obj0_6[0]? fun wv35 =>
                  Ab.asStr wv35 fun ws36 =>
                  br (decide (1 < ((obj0_6.length : Nat) : Int)))
                    (optK obj0_6[1]? fun wv37 =>
                    Ab.asStr wv37 fun ws38 =>
                    br (decide (2 < ((obj0_6.length : Nat) : Int)))
                      (optK obj0_6[2]? fun wv39 =>
                      Ab.asStr wv39 fun ws40 =>
                      optK (K f_ref07_ymd [sv ws36, sv ws38, sv ws40]) fun wv41 =>
                      Ab.asTup wv41 2 fun wg42 =>
                      Ab.asInt (wg42 0) .i64 fun wn43 =>
                      Ab.asBool (wg42 1) fun wb44 =>
                      br (decide (20 ≤ ((s0.size : Nat) : Int)))
                        (optK (K f_ref07_clock [sv (cutStr s0 (some 12) (some 20)), bv false]) fun wv45 =>
                        Ab.asInt wv45 .i64 fun wn46 =>
                        br (decide (21 ≤ ((s0.size : Nat) : Int)))
                          (optK (K f_ref07_zone [sv (cutStr s0 (some 21) none)]) fun wv47 =>
                          Ab.asTup wv47 2 fun wg48 =>
                          Ab.asInt (wg48 0) .i64 fun wn49 =>
                          Ab.asBool (wg48 1) fun wb50 =>
                          optK (br (!wb44)
                              (some (bv true))
                              (br (decide (wn46 < 0))
                                (some (bv true))
                                (some (bv !wb50)))) fun wv51 =>
                          Ab.asBool wv51 fun wb52 =>
                          br wb52
                            (some (AV.tup [iv 0, iv 3]))
                            (optK (br (decide (w64 (w64 (w64 (wn43 * 86400) + wn46) - wn49) < 0))
                                (some (bv true))
                                (some (bv (decide (w64 (w64 (w64 (wn43 * 86400) + wn46) - wn49) > 253402300799))))) fun wv53 =>
                            Ab.asBool wv53 fun wb54 =>
                            br wb54
                              (some (AV.tup [iv 0, iv 15]))
                              (some (AV.tup [iv (w64 (w64 (w64 (wn43 * 86400) + wn46) - wn49)), iv 0]))))
                          (none))
                        (none))
                      (none))
                    (none))
                  (none)))
              (none))
            (none))))
        (none))
theorem topref07_Parse (K : PureK) (lref07_Parse_ref07_split_0 : Sref07_Parse_ref07_split_0 → Option Oref07_Parse_ref07_split_0) (s0 : ByteArray) : topK (addLp (withInl X [25]) 25 3 (Fref07_Parse_ref07_split_0 lref07_Parse_ref07_split_0)) K 0 f_ref07_Parse [(.v (.string s0))] = Rref07_Parse K lref07_Parse_ref07_split_0 s0 := by kernel_rfl
theorem pcref07_Parse {K : PureK} (hK : KOk X K) {lref07_Parse_ref07_split_0 : Sref07_Parse_ref07_split_0 → Option Oref07_Parse_ref07_split_0} (href07_Parse_ref07_split_0 : ∀ s o, lref07_Parse_ref07_split_0 s = some o → ∃ m, fuelRec (Rref07_Parse_ref07_split_0 K some) m s = some o) {s0 : ByteArray} {v : AV} (h : Rref07_Parse K lref07_Parse_ref07_split_0 s0 = some v) : PureCall X f_ref07_Parse [(.v (.string s0))] v := by
  have hSo0 := (sound_inl soundX [25])
  obtain ⟨_, _, hin0⟩ := loopIn_of (X := (withInl X [25])) (f := 25) (i := 0) (key := 3) (by kernel_rfl)
  have hSo1 := sound_add hSo0 hin0 (okref07_Parse_ref07_split_0 hSo0 hK href07_Parse_ref07_split_0)
  exact tell_top (X := X) (Y := (addLp (withInl X [25]) 25 3 (Fref07_Parse_ref07_split_0 lref07_Parse_ref07_split_0))) rfl rfl hSo1 hK ((topref07_Parse K lref07_Parse_ref07_split_0 s0).trans h)

/-! 9: escheat/escheatref07.Short -/
noncomputable def Rref07_Short (K : PureK) (s0 : ByteArray) : Option AV :=
  br (decide (((s0.size : Nat) : Int) > 11))
      (some (AV.tup [iv 0, iv 3]))
      (optK (K f_ref07_split [sv s0, uv 45]) fun wv1 =>
      Ab.asLst wv1 1 fun wb2 wr2 =>
      br (((wr2.length : Nat) : Int) != 3)
        (some (AV.tup [iv 0, iv 3]))
        (br (decide (0 < ((wr2.length : Nat) : Int)))
          (optK wr2[0]? fun wv3 =>
          Ab.asStr wv3 fun ws4 =>
          br (decide (1 < ((wr2.length : Nat) : Int)))
            (optK wr2[1]? fun wv5 =>
            Ab.asStr wv5 fun ws6 =>
            br (decide (2 < ((wr2.length : Nat) : Int)))
              (optK wr2[2]? fun wv7 =>
              Ab.asStr wv7 fun ws8 =>
              optK (K f_ref07_ymd [sv ws4, sv ws6, sv ws8]) fun wv9 =>
              Ab.asTup wv9 2 fun wg10 =>
              Ab.asInt (wg10 0) .i64 fun wn11 =>
              Ab.asBool (wg10 1) fun wb12 =>
              optK (br (!wb12)
                  (some (bv true))
                  (some (bv (decide (wn11 < 0))))) fun wv13 =>
              Ab.asBool wv13 fun wb14 =>
              br wb14
                (some (AV.tup [iv 0, iv 3]))
                (some (AV.tup [iv wn11, iv 0])))
              (none))
            (none))
          (none)))
theorem topref07_Short (K : PureK) (s0 : ByteArray) : topK X K 0 f_ref07_Short [(.v (.string s0))] = Rref07_Short K s0 := by kernel_rfl
theorem pcref07_Short {K : PureK} (hK : KOk X K) {s0 : ByteArray} {v : AV} (h : Rref07_Short K s0 = some v) : PureCall X f_ref07_Short [(.v (.string s0))] v := by
  have hSo0 := soundX
  exact tell_top (X := X) (Y := X) rfl rfl hSo0 hK ((topref07_Short K s0).trans h)

/-! 34: escheat/escheatref07.words -/
inductive Sref07_words_0 where
  | s0 (s0 : ByteArray) (word4 : ByteArray) (i5 : Int)
  | s1 (s0 : ByteArray) (word4 : ByteArray) (i5 : Int) (obj0 : List AV)

inductive Oref07_words_0 where
  | x0
  | x1 (obj0 : List AV)

def Oref07_words_0.k {β : Type} (o : Oref07_words_0) (c0 : Option β) (c1 : (List AV) → Option β) : Option β := match o with
  | .x0 => c0
  | .x1 obj0 => c1 obj0

def Eref07_words_0 : Sref07_words_0 → Env
  | .s0 s0 word4 i5 => [(.v (.string s0)), .dead, .dead, (.lst 1 true []), (.v (.string word4)), (.v (.int .i64 i5)), .dead, .dead, .dead, .dead, .dead, .dead, .dead, .dead, .dead, .dead, .dead, .dead, .dead, .dead, .dead, .dead, .dead, .dead, .dead, .dead, .dead, .dead, .dead, .dead, .dead, .dead, .dead, .dead, .dead, .dead, .dead, .dead, .dead, .dead, .dead, .dead]
  | .s1 s0 word4 i5 obj0 => [(.v (.string s0)), .dead, .dead, (.own 0 1 0 none), (.v (.string word4)), (.v (.int .i64 i5)), .dead, .dead, .dead, .dead, .dead, .dead, .dead, .dead, .dead, .dead, .dead, .dead, .dead, .dead, .dead, .dead, .dead, .dead, .dead, .dead, .dead, .dead, .dead, .dead, .dead, .dead, .dead, .dead, .dead, .dead, .dead, .dead, .dead, .dead, .dead, .dead]

def Href07_words_0 : Sref07_words_0 → Heap
  | .s0 s0 word4 i5 => []
  | .s1 s0 word4 i5 obj0 => [⟨obj0, 1, 0, true, false, 9, 1, none⟩]

def Tref07_words_0 {β : Type} (k : Ex → Env → Heap → Option β) (o : Oref07_words_0) : Option β := Oref07_words_0.k o (k (.exit 0) [.dead, .dead, .dead, (.lst 1 true []), .dead, .dead, .dead, .dead, .dead, .dead, .dead, .dead, .dead, .dead, .dead, .dead, .dead, .dead, .dead, .dead, .dead, .dead, .dead, .dead, .dead, .dead, .dead, .dead, .dead, .dead, .dead, .dead, .dead, .dead, .dead, .dead, .dead, .dead, .dead, .dead, .dead, .dead] []) (fun obj0 => k (.exit 0) [.dead, .dead, .dead, (.own 0 1 0 none), .dead, .dead, .dead, .dead, .dead, .dead, .dead, .dead, .dead, .dead, .dead, .dead, .dead, .dead, .dead, .dead, .dead, .dead, .dead, .dead, .dead, .dead, .dead, .dead, .dead, .dead, .dead, .dead, .dead, .dead, .dead, .dead, .dead, .dead, .dead, .dead, .dead, .dead] [⟨obj0, 1, 0, true, false, 9, 1, none⟩])

def Fref07_words_0 (lref07_words_0 : Sref07_words_0 → Option Oref07_words_0) : LoopF := ⟨fun e h k => match Nat.beq e.length 42 with
  | true => (match e.getD 0 .dead, e.getD 3 .dead, e.getD 4 .dead, e.getD 5 .dead, h with
    | (.v (.string s0)), (.lst 1 true []), (.v (.string word4)), (.v (.int .i64 i5)), [] => optK (lref07_words_0 (.s0 s0 word4 i5)) (Tref07_words_0 k)
    | _, _, _, _, _ => none)
  | false => none⟩

def clref07_words_0 : List Tmp := [1, 2, 6, 7, 8, 9, 10, 11, 12, 13, 14, 15, 16, 17, 18, 19, 20, 21, 22, 23, 24, 25, 26, 27, 28, 29, 30, 31, 32, 33, 34, 35, 36, 37, 38, 39, 40, 41]
def cloref07_words_0 : List Tmp := [0, 1, 2, 4, 5, 6, 7, 8, 9, 10, 11, 12, 13, 14, 15, 16, 17, 18, 19, 20, 21, 22, 23, 24, 25, 26, 27, 28, 29, 30, 31, 32, 33, 34, 35, 36, 37, 38, 39, 40, 41]

noncomputable def Rref07_words_0 {β : Type} (K : PureK) (d : Oref07_words_0 → Option β) (r : Sref07_words_0 → Option β) : Sref07_words_0 → Option β
  | .s0 s0 word4 i5 =>
    br (decide (i5 ≤ ((s0.size : Nat) : Int)))
      (optK (br (decide (i5 < ((s0.size : Nat) : Int)))
          (br (decide (0 ≤ i5))
            (br (decide (i5 < ((s0.size : Nat) : Int)))
              (br (bt s0 i5.toNat != 32)
                (br (decide (0 ≤ i5))
                  (br (decide (i5 < ((s0.size : Nat) : Int)))
                    (some (bv (bt s0 i5.toNat != 9)))
                    (none))
                  (none))
                (some (bv false)))
              (none))
            (none))
          (some (bv false))) fun wv1 =>
      Ab.asBool wv1 fun wb2 =>
      br wb2
        (br (decide (0 ≤ i5))
          (br (decide (i5 ≤ w64 (i5 + 1)))
            (br (decide (w64 (i5 + 1) ≤ ((s0.size : Nat) : Int)))
              (br ((word4.size + (cutStr s0 (some i5) (some (w64 (i5 + 1)))).size).ble maxStr)
                (r (.s0 s0 (catStr word4 (cutStr s0 (some i5) (some (w64 (i5 + 1))))) (w64 (i5 + 1))))
                (none))
              (none))
            (none))
          (none))
        (br (!strEq word4 ({ data := #[] } : ByteArray))
          (r (.s1 s0 ({ data := #[] } : ByteArray) (w64 (i5 + 1)) [sv word4]))
          (r (.s0 s0 ({ data := #[] } : ByteArray) (w64 (i5 + 1))))))
      (d (.x0))
  | .s1 s0 word4 i5 obj0 =>
    br (decide (i5 ≤ ((s0.size : Nat) : Int)))
      (optK (br (decide (i5 < ((s0.size : Nat) : Int)))
          (br (decide (0 ≤ i5))
            (br (decide (i5 < ((s0.size : Nat) : Int)))
              (br (bt s0 i5.toNat != 32)
                (br (decide (0 ≤ i5))
                  (br (decide (i5 < ((s0.size : Nat) : Int)))
                    (some (bv (bt s0 i5.toNat != 9)))
                    (none))
                  (none))
                (some (bv false)))
              (none))
            (none))
          (some (bv false))) fun wv3 =>
      Ab.asBool wv3 fun wb4 =>
      br wb4
        (br (decide (0 ≤ i5))
          (br (decide (i5 ≤ w64 (i5 + 1)))
            (br (decide (w64 (i5 + 1) ≤ ((s0.size : Nat) : Int)))
              (br ((word4.size + (cutStr s0 (some i5) (some (w64 (i5 + 1)))).size).ble maxStr)
                (r (.s1 s0 (catStr word4 (cutStr s0 (some i5) (some (w64 (i5 + 1))))) (w64 (i5 + 1)) obj0))
                (none))
              (none))
            (none))
          (none))
        (br (!strEq word4 ({ data := #[] } : ByteArray))
          (br (lenOk (obj0.length + [sv word4].length) 16 && lenOk (obj0.length + [sv word4].length) 1)
            (r (.s1 s0 ({ data := #[] } : ByteArray) (w64 (i5 + 1)) (obj0 ++ [sv word4])))
            (none))
          (r (.s1 s0 ({ data := #[] } : ByteArray) (w64 (i5 + 1)) obj0))))
      (d (.x1 obj0))
theorem roundref07_words_0 (K : PureK) {β : Type} (r : Env → Heap → Option β) (k : Ex → Env → Heap → Option β) (s : Sref07_words_0) : tellOne X K 0 34 0 [(0, 1, 0), (1, 1, 0), (2, 1, 0)] 0 clref07_words_0 cloref07_words_0 r k (Eref07_words_0 s) (Href07_words_0 s) = Rref07_words_0 K (Tref07_words_0 k) (fun s => r (Eref07_words_0 s) (Href07_words_0 s)) s := by
  cases s <;> kernel_rfl
theorem Oref07_words_0.bind_k {β γ : Type} (o : Oref07_words_0) (c0 : Option β) (c1 : (List AV) → Option β) (φ : β → Option γ) : (Oref07_words_0.k o c0 c1).bind φ = Oref07_words_0.k o (c0.bind φ) (fun obj0 => (c1 obj0).bind φ) := by cases o <;> rfl
theorem natref07_words_0 (K : PureK) {β γ : Type} (φ : β → Option γ) (d : Oref07_words_0 → Option β) (r : Sref07_words_0 → Option β) (s : Sref07_words_0) : Rref07_words_0 K (fun o => (d o).bind φ) (fun s => (r s).bind φ) s = (Rref07_words_0 K d r s).bind φ := by
  cases s <;> simp only [Rref07_words_0, bind_optK, bind_br, bind_asInt, bind_asBool, bind_asStr, bind_asLst, bind_asAgg, bind_asTup, bind_asBig, bind_asErr, bind_none]
theorem outref07_words_0 (o : Oref07_words_0) : ∃ x e' h', ∀ {β : Type} (k : Ex → Env → Heap → Option β), Tref07_words_0 k o = k x e' h' := by cases o <;> exact ⟨_, _, _, fun _ => rfl⟩
theorem okref07_words_0 {K : PureK} (hX : Sound X) (hK : KOk X K) {lref07_words_0 : Sref07_words_0 → Option Oref07_words_0} (hl : ∀ s o, lref07_words_0 s = some o → ∃ m, fuelRec (Rref07_words_0 K some) m s = some o) (β : Type) (e : Env) (h : Heap) (k : Ex → Env → Heap → Option β) (r : β) (hr : (Fref07_words_0 lref07_words_0).run e h k = some r) : ∃ x e' h', k x e' h' = some r ∧ CodeAt X (.loop (loopBody (X).P 34 0)) e h x e' h' := by
  obtain ⟨fn, c, hin⟩ := loopIn_of (X := X) (f := 34) (i := 0) (key := 4) (by kernel_rfl)
  simp only [Fref07_words_0] at hr
  split at hr
  · rename_i hlen
    have hlen := Nat.eq_of_beq_eq_true hlen
    split at hr
    · rename_i q0 q3 q4 q5
      obtain ⟨o, ho, hr⟩ := optK_some hr
      refine tell_ok hX (KOk.congr (X := X) (Y := X) rfl rfl hK) hin (E := Eref07_words_0) (H := Href07_words_0) (R := fun d r => Rref07_words_0 K d r) (T := Tref07_words_0) (ts := [(0, 1, 0), (1, 1, 0), (2, 1, 0)]) (len := 0) (cl := clref07_words_0) (clo := cloref07_words_0) (roundref07_words_0 K) (natref07_words_0 K) outref07_words_0 (hl _ _ ho) (cl0 := clref07_words_0) (ts0 := []) ?_ rfl (by kernel_rfl) (by kernel_rfl) hr
      rw [clear_lit e 42 hlen, show clearEnv clref07_words_0 ((List.range 42).map fun i => e.getD i .dead) = [e.getD 0 .dead, .dead, .dead, e.getD 3 .dead, e.getD 4 .dead, e.getD 5 .dead, .dead, .dead, .dead, .dead, .dead, .dead, .dead, .dead, .dead, .dead, .dead, .dead, .dead, .dead, .dead, .dead, .dead, .dead, .dead, .dead, .dead, .dead, .dead, .dead, .dead, .dead, .dead, .dead, .dead, .dead, .dead, .dead, .dead, .dead, .dead, .dead] from by kernel_rfl]; rw [q0, q3, q4, q5]
      kernel_rfl
    · cases hr
  · cases hr
noncomputable def Rref07_words (K : PureK) (lref07_words_0 : Sref07_words_0 → Option Oref07_words_0) (s0 : ByteArray) : Option AV :=
  optK (lref07_words_0 (Sref07_words_0.s0 s0 ({ data := #[] } : ByteArray) 0)) fun wo1 => Oref07_words_0.k wo1
      (some (AV.lst 1 true []))
      (fun (obj0_3 : List AV) => some (AV.lst 1 false obj0_3))
theorem topref07_words (K : PureK) (lref07_words_0 : Sref07_words_0 → Option Oref07_words_0) (s0 : ByteArray) : topK (addLp X 34 4 (Fref07_words_0 lref07_words_0)) K 0 f_ref07_words [(.v (.string s0))] = Rref07_words K lref07_words_0 s0 := by kernel_rfl
theorem pcref07_words {K : PureK} (hK : KOk X K) {lref07_words_0 : Sref07_words_0 → Option Oref07_words_0} (href07_words_0 : ∀ s o, lref07_words_0 s = some o → ∃ m, fuelRec (Rref07_words_0 K some) m s = some o) {s0 : ByteArray} {v : AV} (h : Rref07_words K lref07_words_0 s0 = some v) : PureCall X f_ref07_words [(.v (.string s0))] v := by
  have hSo0 := soundX
  obtain ⟨_, _, hin0⟩ := loopIn_of (X := X) (f := 34) (i := 0) (key := 4) (by kernel_rfl)
  have hSo1 := sound_add hSo0 hin0 (okref07_words_0 hSo0 hK href07_words_0)
  exact tell_top (X := X) (Y := (addLp X 34 4 (Fref07_words_0 lref07_words_0))) rfl rfl hSo1 hK ((topref07_words K lref07_words_0 s0).trans h)

/-! 35: escheat/escheatref07.week -/
inductive Sref07_week_0 where
  | s0 (s0 : ByteArray) (i3 : Int)

inductive Oref07_week_0 where
  | x0 (t2 : Bool)
  | x1

def Oref07_week_0.k {β : Type} (o : Oref07_week_0) (c0 : Bool → Option β) (c1 : Option β) : Option β := match o with
  | .x0 t2 => c0 t2
  | .x1 => c1

def Eref07_week_0 : Sref07_week_0 → Env
  | .s0 s0 i3 => [(.v (.string s0)), .dead, .dead, (.v (.int .i64 i3)), .dead, .dead, .dead, .dead, .dead, .dead, .dead, .dead, .dead, .dead, .dead, .dead, .dead, .dead, .dead, .dead, .dead, .dead, .dead, .dead, .dead, .dead, .dead, .dead, .dead, .dead, .dead, .dead, .dead]

def Href07_week_0 : Sref07_week_0 → Heap
  | .s0 s0 i3 => []

def Tref07_week_0 {β : Type} (k : Ex → Env → Heap → Option β) (o : Oref07_week_0) : Option β := Oref07_week_0.k o (fun t2 => k .ret [.dead, .dead, (.v (.bool t2)), .dead, .dead, .dead, .dead, .dead, .dead, .dead, .dead, .dead, .dead, .dead, .dead, .dead, .dead, .dead, .dead, .dead, .dead, .dead, .dead, .dead, .dead, .dead, .dead, .dead, .dead, .dead, .dead, .dead, .dead] []) (k (.exit 0) [.dead, .dead, .dead, .dead, .dead, .dead, .dead, .dead, .dead, .dead, .dead, .dead, .dead, .dead, .dead, .dead, .dead, .dead, .dead, .dead, .dead, .dead, .dead, .dead, .dead, .dead, .dead, .dead, .dead, .dead, .dead, .dead, .dead] [])

def Fref07_week_0 (lref07_week_0 : Sref07_week_0 → Option Oref07_week_0) : LoopF := ⟨fun e h k => match Nat.beq e.length 33 with
  | true => (match e.getD 0 .dead, e.getD 3 .dead, h with
    | (.v (.string s0)), (.v (.int .i64 i3)), [] => optK (lref07_week_0 (.s0 s0 i3)) (Tref07_week_0 k)
    | _, _, _ => none)
  | false => none⟩

def clref07_week_0 : List Tmp := [1, 2, 4, 5, 6, 7, 8, 9, 10, 11, 12, 13, 14, 15, 16, 17, 18, 19, 20, 21, 22, 23, 24, 25, 26, 27, 28, 29, 30, 31, 32]
def cloref07_week_0 : List Tmp := [0, 1, 3, 4, 5, 6, 7, 8, 9, 10, 11, 12, 13, 14, 15, 16, 17, 18, 19, 20, 21, 22, 23, 24, 25, 26, 27, 28, 29, 30, 31, 32]

noncomputable def Rref07_week_0 {β : Type} (K : PureK) (d : Oref07_week_0 → Option β) (r : Sref07_week_0 → Option β) : Sref07_week_0 → Option β
  | .s0 s0 i3 =>
    br (decide (i3 < w64 (((s0.size : Nat) : Int) - 1)))
      (br (decide (0 ≤ i3))
        (br (decide (i3 < ((s0.size : Nat) : Int)))
          (optK (br (decide (w8 ((((BitVec.ofInt 8 (bt s0 i3.toNat) ||| BitVec.ofInt 8 32).toNat : Nat) : Int)) < 97))
              (some (bv true))
              (some (bv (decide (w8 ((((BitVec.ofInt 8 (bt s0 i3.toNat) ||| BitVec.ofInt 8 32).toNat : Nat) : Int)) > 122))))) fun wv1 =>
          Ab.asBool wv1 fun wb2 =>
          br wb2
            (d (.x0 false))
            (r (.s0 s0 (w64 (i3 + 1)))))
          (none))
        (none))
      (d (.x1))
theorem roundref07_week_0 (K : PureK) {β : Type} (r : Env → Heap → Option β) (k : Ex → Env → Heap → Option β) (s : Sref07_week_0) : tellOne X K 0 35 0 [(0, 1, 0), (1, 1, 0), (2, 1, 0)] 0 clref07_week_0 cloref07_week_0 r k (Eref07_week_0 s) (Href07_week_0 s) = Rref07_week_0 K (Tref07_week_0 k) (fun s => r (Eref07_week_0 s) (Href07_week_0 s)) s := by
  cases s <;> kernel_rfl
theorem Oref07_week_0.bind_k {β γ : Type} (o : Oref07_week_0) (c0 : Bool → Option β) (c1 : Option β) (φ : β → Option γ) : (Oref07_week_0.k o c0 c1).bind φ = Oref07_week_0.k o (fun t2 => (c0 t2).bind φ) (c1.bind φ) := by cases o <;> rfl
theorem natref07_week_0 (K : PureK) {β γ : Type} (φ : β → Option γ) (d : Oref07_week_0 → Option β) (r : Sref07_week_0 → Option β) (s : Sref07_week_0) : Rref07_week_0 K (fun o => (d o).bind φ) (fun s => (r s).bind φ) s = (Rref07_week_0 K d r s).bind φ := by
  cases s <;> simp only [Rref07_week_0, bind_optK, bind_br, bind_asInt, bind_asBool, bind_asStr, bind_asLst, bind_asAgg, bind_asTup, bind_asBig, bind_asErr, bind_none]
theorem outref07_week_0 (o : Oref07_week_0) : ∃ x e' h', ∀ {β : Type} (k : Ex → Env → Heap → Option β), Tref07_week_0 k o = k x e' h' := by cases o <;> exact ⟨_, _, _, fun _ => rfl⟩
theorem okref07_week_0 {K : PureK} (hX : Sound X) (hK : KOk X K) {lref07_week_0 : Sref07_week_0 → Option Oref07_week_0} (hl : ∀ s o, lref07_week_0 s = some o → ∃ m, fuelRec (Rref07_week_0 K some) m s = some o) (β : Type) (e : Env) (h : Heap) (k : Ex → Env → Heap → Option β) (r : β) (hr : (Fref07_week_0 lref07_week_0).run e h k = some r) : ∃ x e' h', k x e' h' = some r ∧ CodeAt X (.loop (loopBody (X).P 35 0)) e h x e' h' := by
  obtain ⟨fn, c, hin⟩ := loopIn_of (X := X) (f := 35) (i := 0) (key := 4) (by kernel_rfl)
  simp only [Fref07_week_0] at hr
  split at hr
  · rename_i hlen
    have hlen := Nat.eq_of_beq_eq_true hlen
    split at hr
    · rename_i q0 q3
      obtain ⟨o, ho, hr⟩ := optK_some hr
      refine tell_ok hX (KOk.congr (X := X) (Y := X) rfl rfl hK) hin (E := Eref07_week_0) (H := Href07_week_0) (R := fun d r => Rref07_week_0 K d r) (T := Tref07_week_0) (ts := [(0, 1, 0), (1, 1, 0), (2, 1, 0)]) (len := 0) (cl := clref07_week_0) (clo := cloref07_week_0) (roundref07_week_0 K) (natref07_week_0 K) outref07_week_0 (hl _ _ ho) (cl0 := clref07_week_0) (ts0 := []) ?_ rfl (by kernel_rfl) (by kernel_rfl) hr
      rw [clear_lit e 33 hlen, show clearEnv clref07_week_0 ((List.range 33).map fun i => e.getD i .dead) = [e.getD 0 .dead, .dead, .dead, e.getD 3 .dead, .dead, .dead, .dead, .dead, .dead, .dead, .dead, .dead, .dead, .dead, .dead, .dead, .dead, .dead, .dead, .dead, .dead, .dead, .dead, .dead, .dead, .dead, .dead, .dead, .dead, .dead, .dead, .dead, .dead] from by kernel_rfl]; rw [q0, q3]
      kernel_rfl
    · cases hr
  · cases hr
noncomputable def Rref07_week (K : PureK) (lref07_week_0 : Sref07_week_0 → Option Oref07_week_0) (s0 : ByteArray) : Option AV :=
  optK (br (decide (((s0.size : Nat) : Int) < 2))
        (some (bv true))
        (br (decide (0 ≤ w64 (((s0.size : Nat) : Int) - 1)))
          (br (decide (w64 (((s0.size : Nat) : Int) - 1) < ((s0.size : Nat) : Int)))
            (some (bv (bt s0 (w64 (((s0.size : Nat) : Int) - 1)).toNat != 44)))
            (none))
          (none))) fun wv3 =>
    Ab.asBool wv3 fun wb4 =>
    br wb4
      (some (bv false))
      (optK (lref07_week_0 (Sref07_week_0.s0 s0 0)) fun wo5 => Oref07_week_0.k wo5
        (fun (t2_6 : Bool) => some (bv t2_6))
        (some (bv true)))
theorem topref07_week (K : PureK) (lref07_week_0 : Sref07_week_0 → Option Oref07_week_0) (s0 : ByteArray) : topK (addLp X 35 4 (Fref07_week_0 lref07_week_0)) K 0 f_ref07_week [(.v (.string s0))] = Rref07_week K lref07_week_0 s0 := by kernel_rfl
theorem pcref07_week {K : PureK} (hK : KOk X K) {lref07_week_0 : Sref07_week_0 → Option Oref07_week_0} (href07_week_0 : ∀ s o, lref07_week_0 s = some o → ∃ m, fuelRec (Rref07_week_0 K some) m s = some o) {s0 : ByteArray} {v : AV} (h : Rref07_week K lref07_week_0 s0 = some v) : PureCall X f_ref07_week [(.v (.string s0))] v := by
  have hSo0 := soundX
  obtain ⟨_, _, hin0⟩ := loopIn_of (X := X) (f := 35) (i := 0) (key := 4) (by kernel_rfl)
  have hSo1 := sound_add hSo0 hin0 (okref07_week_0 hSo0 hK href07_week_0)
  exact tell_top (X := X) (Y := (addLp X 35 4 (Fref07_week_0 lref07_week_0))) rfl rfl hSo1 hK ((topref07_week K lref07_week_0 s0).trans h)

/-! 11: escheat/escheatref07.Mail -/
noncomputable def Rref07_Mail (K : PureK) (s0 : ByteArray) : Option AV :=
  br (decide (((s0.size : Nat) : Int) > 200))
      (some (AV.tup [iv 0, iv 3]))
      (optK (K f_ref07_words [sv s0]) fun wv1 =>
      Ab.asLst wv1 1 fun wb2 wr2 =>
      optK (br (decide (((wr2.length : Nat) : Int) > 0))
          (br (decide (0 < ((wr2.length : Nat) : Int)))
            (optK wr2[0]? fun wv4 =>
            Ab.asStr wv4 fun ws5 =>
            optK (K f_ref07_week [sv ws5]) fun wv6 =>
            Ab.asBool wv6 fun wb7 =>
            some (bv wb7))
            (none))
          (some (bv false))) fun wv3 =>
      Ab.asBool wv3 fun wb8 =>
      br wb8
        (br (decide (1 ≤ ((wr2.length : Nat) : Int)))
          (optK (br ((((List.drop 1 wr2).length : Nat) : Int) == 6)
              (br (decide (5 < (((List.drop 1 wr2).length : Nat) : Int)))
                (optK ((List.drop 1 wr2)[5]?) fun wv10 =>
                Ab.asStr wv10 fun ws11 =>
                br (decide (((ws11.size : Nat) : Int) ≥ 2))
                  (br (decide (5 < (((List.drop 1 wr2).length : Nat) : Int)))
                    (optK ((List.drop 1 wr2)[5]?) fun wv12 =>
                    Ab.asStr wv12 fun ws13 =>
                    br (decide (0 < ((ws13.size : Nat) : Int)))
                      (br (bt ws13 0 == 40)
                        (br (decide (5 < (((List.drop 1 wr2).length : Nat) : Int)))
                          (optK ((List.drop 1 wr2)[5]?) fun wv14 =>
                          Ab.asStr wv14 fun ws15 =>
                          br (decide (5 < (((List.drop 1 wr2).length : Nat) : Int)))
                            (optK ((List.drop 1 wr2)[5]?) fun wv16 =>
                            Ab.asStr wv16 fun ws17 =>
                            br (decide (0 ≤ w64 (((ws17.size : Nat) : Int) - 1)))
                              (br (decide (w64 (((ws17.size : Nat) : Int) - 1) < ((ws15.size : Nat) : Int)))
                                (some (bv (bt ws15 (w64 (((ws17.size : Nat) : Int) - 1)).toNat == 41)))
                                (none))
                              (none))
                            (none))
                          (none))
                        (some (bv false)))
                      (none))
                    (none))
                  (some (bv false)))
                (none))
              (some (bv false))) fun wv9 =>
          Ab.asBool wv9 fun wb18 =>
          br wb18
            (br (decide (5 ≤ (((List.drop 1 wr2).length : Nat) : Int)))
              (br ((((List.take 5 (List.drop 1 wr2)).length : Nat) : Int) != 5)
                (some (AV.tup [iv 0, iv 3]))
                (br (decide (0 < (((List.take 5 (List.drop 1 wr2)).length : Nat) : Int)))
                  (optK ((List.take 5 (List.drop 1 wr2))[0]?) fun wv19 =>
                  Ab.asStr wv19 fun ws20 =>
                  br (decide (1 < (((List.take 5 (List.drop 1 wr2)).length : Nat) : Int)))
                    (optK ((List.take 5 (List.drop 1 wr2))[1]?) fun wv21 =>
                    Ab.asStr wv21 fun ws22 =>
                    br (decide (2 < (((List.take 5 (List.drop 1 wr2)).length : Nat) : Int)))
                      (optK ((List.take 5 (List.drop 1 wr2))[2]?) fun wv23 =>
                      Ab.asStr wv23 fun ws24 =>
                      optK (K f_ref07_ymd [sv ws20, sv ws22, sv ws24]) fun wv25 =>
                      Ab.asTup wv25 2 fun wg26 =>
                      Ab.asInt (wg26 0) .i64 fun wn27 =>
                      Ab.asBool (wg26 1) fun wb28 =>
                      br (decide (4 < (((List.take 5 (List.drop 1 wr2)).length : Nat) : Int)))
                        (optK ((List.take 5 (List.drop 1 wr2))[4]?) fun wv29 =>
                        Ab.asStr wv29 fun ws30 =>
                        optK (K f_ref07_zone [sv ws30]) fun wv31 =>
                        Ab.asTup wv31 2 fun wg32 =>
                        Ab.asInt (wg32 0) .i64 fun wn33 =>
                        Ab.asBool (wg32 1) fun wb34 =>
                        optK (br (!wb28)
                            (some (bv true))
                            (br (decide (3 < (((List.take 5 (List.drop 1 wr2)).length : Nat) : Int)))
                              (optK ((List.take 5 (List.drop 1 wr2))[3]?) fun wv36 =>
                              Ab.asStr wv36 fun ws37 =>
                              optK (K f_ref07_clock [sv ws37, bv true]) fun wv38 =>
                              Ab.asInt wv38 .i64 fun wn39 =>
                              br (decide (wn39 < 0))
                                (some (bv true))
                                (some (bv !wb34)))
                              (none))) fun wv35 =>
                        Ab.asBool wv35 fun wb40 =>
                        br wb40
                          (some (AV.tup [iv 0, iv 3]))
                          (br (decide (wn27 < 0))
                            (some (AV.tup [iv 0, iv 15]))
                            (some (AV.tup [iv wn27, iv 0]))))
                        (none))
                      (none))
                    (none))
                  (none)))
              (none))
            (br ((((List.drop 1 wr2).length : Nat) : Int) != 5)
              (some (AV.tup [iv 0, iv 3]))
              (br (decide (0 < (((List.drop 1 wr2).length : Nat) : Int)))
                (optK ((List.drop 1 wr2)[0]?) fun wv41 =>
                Ab.asStr wv41 fun ws42 =>
                br (decide (1 < (((List.drop 1 wr2).length : Nat) : Int)))
                  (optK ((List.drop 1 wr2)[1]?) fun wv43 =>
                  Ab.asStr wv43 fun ws44 =>
                  br (decide (2 < (((List.drop 1 wr2).length : Nat) : Int)))
                    (optK ((List.drop 1 wr2)[2]?) fun wv45 =>
                    Ab.asStr wv45 fun ws46 =>
                    optK (K f_ref07_ymd [sv ws42, sv ws44, sv ws46]) fun wv47 =>
                    Ab.asTup wv47 2 fun wg48 =>
                    Ab.asInt (wg48 0) .i64 fun wn49 =>
                    Ab.asBool (wg48 1) fun wb50 =>
                    br (decide (4 < (((List.drop 1 wr2).length : Nat) : Int)))
                      (optK ((List.drop 1 wr2)[4]?) fun wv51 =>
                      Ab.asStr wv51 fun ws52 =>
                      optK (K f_ref07_zone [sv ws52]) fun wv53 =>
                      Ab.asTup wv53 2 fun wg54 =>
                      Ab.asInt (wg54 0) .i64 fun wn55 =>
                      Ab.asBool (wg54 1) fun wb56 =>
                      optK (br (!wb50)
                          (some (bv true))
                          (br (decide (3 < (((List.drop 1 wr2).length : Nat) : Int)))
                            (optK ((List.drop 1 wr2)[3]?) fun wv58 =>
                            Ab.asStr wv58 fun ws59 =>
                            optK (K f_ref07_clock [sv ws59, bv true]) fun wv60 =>
                            Ab.asInt wv60 .i64 fun wn61 =>
                            br (decide (wn61 < 0))
                              (some (bv true))
                              (some (bv !wb56)))
                            (none))) fun wv57 =>
                      Ab.asBool wv57 fun wb62 =>
                      br wb62
                        (some (AV.tup [iv 0, iv 3]))
                        (br (decide (wn49 < 0))
                          (some (AV.tup [iv 0, iv 15]))
                          (some (AV.tup [iv wn49, iv 0]))))
                      (none))
                    (none))
                  (none))
                (none))))
          (none))
        (optK (br (((wr2.length : Nat) : Int) == 6)
            (br (decide (5 < ((wr2.length : Nat) : Int)))
              (optK wr2[5]? fun wv64 =>
              Ab.asStr wv64 fun ws65 =>
              br (decide (((ws65.size : Nat) : Int) ≥ 2))
                (br (decide (5 < ((wr2.length : Nat) : Int)))
                  (optK wr2[5]? fun wv66 =>
                  Ab.asStr wv66 fun ws67 =>
                  br (decide (0 < ((ws67.size : Nat) : Int)))
                    (br (bt ws67 0 == 40)
                      (br (decide (5 < ((wr2.length : Nat) : Int)))
                        (optK wr2[5]? fun wv68 =>
                        Ab.asStr wv68 fun ws69 =>
                        br (decide (5 < ((wr2.length : Nat) : Int)))
                          (optK wr2[5]? fun wv70 =>
                          Ab.asStr wv70 fun ws71 =>
                          br (decide (0 ≤ w64 (((ws71.size : Nat) : Int) - 1)))
                            (br (decide (w64 (((ws71.size : Nat) : Int) - 1) < ((ws69.size : Nat) : Int)))
                              (some (bv (bt ws69 (w64 (((ws71.size : Nat) : Int) - 1)).toNat == 41)))
                              (none))
                            (none))
                          (none))
                        (none))
                      (some (bv false)))
                    (none))
                  (none))
                (some (bv false)))
              (none))
            (some (bv false))) fun wv63 =>
        Ab.asBool wv63 fun wb72 =>
        br wb72
          (br (decide (5 ≤ ((wr2.length : Nat) : Int)))
            (br ((((List.take 5 wr2).length : Nat) : Int) != 5)
              (some (AV.tup [iv 0, iv 3]))
              (br (decide (0 < (((List.take 5 wr2).length : Nat) : Int)))
                (optK ((List.take 5 wr2)[0]?) fun wv73 =>
                Ab.asStr wv73 fun ws74 =>
                br (decide (1 < (((List.take 5 wr2).length : Nat) : Int)))
                  (optK ((List.take 5 wr2)[1]?) fun wv75 =>
                  Ab.asStr wv75 fun ws76 =>
                  br (decide (2 < (((List.take 5 wr2).length : Nat) : Int)))
                    (optK ((List.take 5 wr2)[2]?) fun wv77 =>
                    Ab.asStr wv77 fun ws78 =>
                    optK (K f_ref07_ymd [sv ws74, sv ws76, sv ws78]) fun wv79 =>
                    Ab.asTup wv79 2 fun wg80 =>
                    Ab.asInt (wg80 0) .i64 fun wn81 =>
                    Ab.asBool (wg80 1) fun wb82 =>
                    br (decide (4 < (((List.take 5 wr2).length : Nat) : Int)))
                      (optK ((List.take 5 wr2)[4]?) fun wv83 =>
                      Ab.asStr wv83 fun ws84 =>
                      optK (K f_ref07_zone [sv ws84]) fun wv85 =>
                      Ab.asTup wv85 2 fun wg86 =>
                      Ab.asInt (wg86 0) .i64 fun wn87 =>
                      Ab.asBool (wg86 1) fun wb88 =>
                      optK (br (!wb82)
                          (some (bv true))
                          (br (decide (3 < (((List.take 5 wr2).length : Nat) : Int)))
                            (optK ((List.take 5 wr2)[3]?) fun wv90 =>
                            Ab.asStr wv90 fun ws91 =>
                            optK (K f_ref07_clock [sv ws91, bv true]) fun wv92 =>
                            Ab.asInt wv92 .i64 fun wn93 =>
                            br (decide (wn93 < 0))
                              (some (bv true))
                              (some (bv !wb88)))
                            (none))) fun wv89 =>
                      Ab.asBool wv89 fun wb94 =>
                      br wb94
                        (some (AV.tup [iv 0, iv 3]))
                        (br (decide (wn81 < 0))
                          (some (AV.tup [iv 0, iv 15]))
                          (some (AV.tup [iv wn81, iv 0]))))
                      (none))
                    (none))
                  (none))
                (none)))
            (none))
          (br (((wr2.length : Nat) : Int) != 5)
            (some (AV.tup [iv 0, iv 3]))
            (br (decide (0 < ((wr2.length : Nat) : Int)))
              (optK wr2[0]? fun wv95 =>
              Ab.asStr wv95 fun ws96 =>
              br (decide (1 < ((wr2.length : Nat) : Int)))
                (optK wr2[1]? fun wv97 =>
                Ab.asStr wv97 fun ws98 =>
                br (decide (2 < ((wr2.length : Nat) : Int)))
                  (optK wr2[2]? fun wv99 =>
                  Ab.asStr wv99 fun ws100 =>
                  optK (K f_ref07_ymd [sv ws96, sv ws98, sv ws100]) fun wv101 =>
                  Ab.asTup wv101 2 fun wg102 =>
                  Ab.asInt (wg102 0) .i64 fun wn103 =>
                  Ab.asBool (wg102 1) fun wb104 =>
                  br (decide (4 < ((wr2.length : Nat) : Int)))
                    (optK wr2[4]? fun wv105 =>
                    Ab.asStr wv105 fun ws106 =>
                    optK (K f_ref07_zone [sv ws106]) fun wv107 =>
                    Ab.asTup wv107 2 fun wg108 =>
                    Ab.asInt (wg108 0) .i64 fun wn109 =>
                    Ab.asBool (wg108 1) fun wb110 =>
                    optK (br (!wb104)
                        (some (bv true))
                        (br (decide (3 < ((wr2.length : Nat) : Int)))
                          (optK wr2[3]? fun wv112 =>
                          Ab.asStr wv112 fun ws113 =>
                          optK (K f_ref07_clock [sv ws113, bv true]) fun wv114 =>
                          Ab.asInt wv114 .i64 fun wn115 =>
                          br (decide (wn115 < 0))
                            (some (bv true))
                            (some (bv !wb110)))
                          (none))) fun wv111 =>
                    Ab.asBool wv111 fun wb116 =>
                    br wb116
                      (some (AV.tup [iv 0, iv 3]))
                      (br (decide (wn103 < 0))
                        (some (AV.tup [iv 0, iv 15]))
                        (some (AV.tup [iv wn103, iv 0]))))
                    (none))
                  (none))
                (none))
              (none)))))
theorem topref07_Mail (K : PureK) (s0 : ByteArray) : topK X K 0 f_ref07_Mail [(.v (.string s0))] = Rref07_Mail K s0 := by kernel_rfl
theorem pcref07_Mail {K : PureK} (hK : KOk X K) {s0 : ByteArray} {v : AV} (h : Rref07_Mail K s0 = some v) : PureCall X f_ref07_Mail [(.v (.string s0))] v := by
  have hSo0 := soundX
  exact tell_top (X := X) (Y := X) rfl rfl hSo0 hK ((topref07_Mail K s0).trans h)

/-! 15: escheat/escheatref07.Day -/
noncomputable def Rref07_Day (K : PureK) (t0 : Int) : Option AV :=
  br (decide (t0 < 0))
      (some (iv (-1)))
      (some (iv (w64 (t0.tdiv 86400))))
theorem topref07_Day (K : PureK) (t0 : Int) : topK X K 0 f_ref07_Day [(.v (.int .i64 t0))] = Rref07_Day K t0 := by kernel_rfl
theorem pcref07_Day {K : PureK} (hK : KOk X K) {t0 : Int} {v : AV} (h : Rref07_Day K t0 = some v) : PureCall X f_ref07_Day [(.v (.int .i64 t0))] v := by
  have hSo0 := soundX
  exact tell_top (X := X) (Y := X) rfl rfl hSo0 hK ((topref07_Day K t0).trans h)

/-! 37: escheat/escheatref07.digits -/
noncomputable def Rref07_digits (K : PureK) (n0 : Int) (size1 : Int) : Option AV :=
  br (size1 == 0)
      (some (sv ({ data := #[] } : ByteArray)))
      (optK (K f_ref07_digits [iv (w64 (n0.tdiv 10)), iv (w64 (size1 - 1))]) fun wv1 =>
      Ab.asStr wv1 fun ws2 =>
      br (decide (0 ≤ n0.tmod 10))
        (br (decide (n0.tmod 10 ≤ w64 (n0.tmod 10 + 1)))
          (br (decide (w64 (n0.tmod 10 + 1) ≤ 10))
            (br ((ws2.size + (cutStr ({ data := #[48, 49, 50, 51, 52, 53, 54, 55, 56, 57] } : ByteArray) (some (n0.tmod 10)) (some (w64 (n0.tmod 10 + 1)))).size).ble maxStr)
              (some (sv (catStr ws2 (cutStr ({ data := #[48, 49, 50, 51, 52, 53, 54, 55, 56, 57] } : ByteArray) (some (n0.tmod 10)) (some (w64 (n0.tmod 10 + 1)))))))
              (none))
            (none))
          (none))
        (none))
theorem topref07_digits (K : PureK) (n0 : Int) (size1 : Int) : topK X K 0 f_ref07_digits [(.v (.int .i64 n0)), (.v (.int .i64 size1))] = Rref07_digits K n0 size1 := by kernel_rfl
theorem pcref07_digits {K : PureK} (hK : KOk X K) {n0 : Int} {size1 : Int} {v : AV} (h : Rref07_digits K n0 size1 = some v) : PureCall X f_ref07_digits [(.v (.int .i64 n0)), (.v (.int .i64 size1))] v := by
  have hSo0 := soundX
  exact tell_top (X := X) (Y := X) rfl rfl hSo0 hK ((topref07_digits K n0 size1).trans h)

/-! 13: escheat/escheatref07.Print -/
noncomputable def Rref07_Print (K : PureK) (t0 : Int) : Option AV :=
  optK (br (decide (t0 < 0))
        (some (bv true))
        (some (bv (decide (t0 > 253402300799))))) fun wv1 =>
    Ab.asBool wv1 fun wb2 =>
    br wb2
      (some (AV.tup [sv ({ data := #[] } : ByteArray), iv 15]))
      (optK (K f_ref07_Civil [iv (w64 (t0.tdiv 86400))]) fun wv3 =>
      Ab.asTup wv3 3 fun wg4 =>
      Ab.asInt (wg4 0) .i64 fun wn5 =>
      Ab.asInt (wg4 1) .i64 fun wn6 =>
      Ab.asInt (wg4 2) .i64 fun wn7 =>
      optK (K f_ref07_digits [iv wn7, iv 2]) fun wv8 =>
      Ab.asStr wv8 fun ws9 =>
      br (decide (wn7 < 10))
        (optK (K f_ref07_digits [iv wn7, iv 1]) fun wv10 =>
        Ab.asStr wv10 fun ws11 =>
        br ((1 + ws11.size).ble maxStr)
          (br (((catStr ({ data := #[32] } : ByteArray) ws11).size + 1).ble maxStr)
            (optK (K f_ref07_months []) fun wv12 =>
            Ab.asStr wv12 fun ws13 =>
            br (decide (0 ≤ w64 (w64 (3 * wn6) - 3)))
              (br (decide (w64 (w64 (3 * wn6) - 3) ≤ w64 (3 * wn6)))
                (br (decide (w64 (3 * wn6) ≤ ((ws13.size : Nat) : Int)))
                  (br (((catStr (catStr ({ data := #[32] } : ByteArray) ws11) ({ data := #[45] } : ByteArray)).size + (cutStr ws13 (some (w64 (w64 (3 * wn6) - 3))) (some (w64 (3 * wn6)))).size).ble maxStr)
                    (br (((catStr (catStr (catStr ({ data := #[32] } : ByteArray) ws11) ({ data := #[45] } : ByteArray)) (cutStr ws13 (some (w64 (w64 (3 * wn6) - 3))) (some (w64 (3 * wn6))))).size + 1).ble maxStr)
                      (optK (K f_ref07_digits [iv wn5, iv 4]) fun wv14 =>
                      Ab.asStr wv14 fun ws15 =>
                      br (((catStr (catStr (catStr (catStr ({ data := #[32] } : ByteArray) ws11) ({ data := #[45] } : ByteArray)) (cutStr ws13 (some (w64 (w64 (3 * wn6) - 3))) (some (w64 (3 * wn6))))) ({ data := #[45] } : ByteArray)).size + ws15.size).ble maxStr)
                        (br (((catStr (catStr (catStr (catStr (catStr ({ data := #[32] } : ByteArray) ws11) ({ data := #[45] } : ByteArray)) (cutStr ws13 (some (w64 (w64 (3 * wn6) - 3))) (some (w64 (3 * wn6))))) ({ data := #[45] } : ByteArray)) ws15).size + 1).ble maxStr)
                          (optK (K f_ref07_digits [iv (w64 ((t0.tmod 86400).tdiv 3600)), iv 2]) fun wv16 =>
                          Ab.asStr wv16 fun ws17 =>
                          br (((catStr (catStr (catStr (catStr (catStr (catStr ({ data := #[32] } : ByteArray) ws11) ({ data := #[45] } : ByteArray)) (cutStr ws13 (some (w64 (w64 (3 * wn6) - 3))) (some (w64 (3 * wn6))))) ({ data := #[45] } : ByteArray)) ws15) ({ data := #[32] } : ByteArray)).size + ws17.size).ble maxStr)
                            (br (((catStr (catStr (catStr (catStr (catStr (catStr (catStr ({ data := #[32] } : ByteArray) ws11) ({ data := #[45] } : ByteArray)) (cutStr ws13 (some (w64 (w64 (3 * wn6) - 3))) (some (w64 (3 * wn6))))) ({ data := #[45] } : ByteArray)) ws15) ({ data := #[32] } : ByteArray)) ws17).size + 1).ble maxStr)
                              (optK (K f_ref07_digits [iv (w64 ((t0.tmod 3600).tdiv 60)), iv 2]) fun wv18 =>
                              Ab.asStr wv18 fun ws19 =>
                              br (((catStr (catStr (catStr (catStr (catStr (catStr (catStr (catStr ({ data := #[32] } : ByteArray) ws11) ({ data := #[45] } : ByteArray)) (cutStr ws13 (some (w64 (w64 (3 * wn6) - 3))) (some (w64 (3 * wn6))))) ({ data := #[45] } : ByteArray)) ws15) ({ data := #[32] } : ByteArray)) ws17) ({ data := #[58] } : ByteArray)).size + ws19.size).ble maxStr)
                                (br (((catStr (catStr (catStr (catStr (catStr (catStr (catStr (catStr (catStr ({ data := #[32] } : ByteArray) ws11) ({ data := #[45] } : ByteArray)) (cutStr ws13 (some (w64 (w64 (3 * wn6) - 3))) (some (w64 (3 * wn6))))) ({ data := #[45] } : ByteArray)) ws15) ({ data := #[32] } : ByteArray)) ws17) ({ data := #[58] } : ByteArray)) ws19).size + 1).ble maxStr)
                                  (optK (K f_ref07_digits [iv (t0.tmod 60), iv 2]) fun wv20 =>
                                  Ab.asStr wv20 fun ws21 =>
                                  br (((catStr (catStr (catStr (catStr (catStr (catStr (catStr (catStr (catStr (catStr ({ data := #[32] } : ByteArray) ws11) ({ data := #[45] } : ByteArray)) (cutStr ws13 (some (w64 (w64 (3 * wn6) - 3))) (some (w64 (3 * wn6))))) ({ data := #[45] } : ByteArray)) ws15) ({ data := #[32] } : ByteArray)) ws17) ({ data := #[58] } : ByteArray)) ws19) ({ data := #[58] } : ByteArray)).size + ws21.size).ble maxStr)
                                    (br (((catStr (catStr (catStr (catStr (catStr (catStr (catStr (catStr (catStr (catStr (catStr ({ data := #[32] } : ByteArray) ws11) ({ data := #[45] } : ByteArray)) (cutStr ws13 (some (w64 (w64 (3 * wn6) - 3))) (some (w64 (3 * wn6))))) ({ data := #[45] } : ByteArray)) ws15) ({ data := #[32] } : ByteArray)) ws17) ({ data := #[58] } : ByteArray)) ws19) ({ data := #[58] } : ByteArray)) ws21).size + 6).ble maxStr)
                                      (some (AV.tup [sv (catStr (catStr (catStr (catStr (catStr (catStr (catStr (catStr (catStr (catStr (catStr (catStr ({ data := #[32] } : ByteArray) ws11) ({ data := #[45] } : ByteArray)) (cutStr ws13 (some (w64 (w64 (3 * wn6) - 3))) (some (w64 (3 * wn6))))) ({ data := #[45] } : ByteArray)) ws15) ({ data := #[32] } : ByteArray)) ws17) ({ data := #[58] } : ByteArray)) ws19) ({ data := #[58] } : ByteArray)) ws21) ({ data := #[32, 43, 48, 48, 48, 48] } : ByteArray)), iv 0]))
                                      (none))
                                    (none))
                                  (none))
                                (none))
                              (none))
                            (none))
                          (none))
                        (none))
                      (none))
                    (none))
                  (none))
                (none))
              (none))
            (none))
          (none))
        (br ((ws9.size + 1).ble maxStr)
          (optK (K f_ref07_months []) fun wv22 =>
          Ab.asStr wv22 fun ws23 =>
          br (decide (0 ≤ w64 (w64 (3 * wn6) - 3)))
            (br (decide (w64 (w64 (3 * wn6) - 3) ≤ w64 (3 * wn6)))
              (br (decide (w64 (3 * wn6) ≤ ((ws23.size : Nat) : Int)))
                (br (((catStr ws9 ({ data := #[45] } : ByteArray)).size + (cutStr ws23 (some (w64 (w64 (3 * wn6) - 3))) (some (w64 (3 * wn6)))).size).ble maxStr)
                  (br (((catStr (catStr ws9 ({ data := #[45] } : ByteArray)) (cutStr ws23 (some (w64 (w64 (3 * wn6) - 3))) (some (w64 (3 * wn6))))).size + 1).ble maxStr)
                    (optK (K f_ref07_digits [iv wn5, iv 4]) fun wv24 =>
                    Ab.asStr wv24 fun ws25 =>
                    br (((catStr (catStr (catStr ws9 ({ data := #[45] } : ByteArray)) (cutStr ws23 (some (w64 (w64 (3 * wn6) - 3))) (some (w64 (3 * wn6))))) ({ data := #[45] } : ByteArray)).size + ws25.size).ble maxStr)
                      (br (((catStr (catStr (catStr (catStr ws9 ({ data := #[45] } : ByteArray)) (cutStr ws23 (some (w64 (w64 (3 * wn6) - 3))) (some (w64 (3 * wn6))))) ({ data := #[45] } : ByteArray)) ws25).size + 1).ble maxStr)
                        (optK (K f_ref07_digits [iv (w64 ((t0.tmod 86400).tdiv 3600)), iv 2]) fun wv26 =>
                        Ab.asStr wv26 fun ws27 =>
                        br (((catStr (catStr (catStr (catStr (catStr ws9 ({ data := #[45] } : ByteArray)) (cutStr ws23 (some (w64 (w64 (3 * wn6) - 3))) (some (w64 (3 * wn6))))) ({ data := #[45] } : ByteArray)) ws25) ({ data := #[32] } : ByteArray)).size + ws27.size).ble maxStr)
                          (br (((catStr (catStr (catStr (catStr (catStr (catStr ws9 ({ data := #[45] } : ByteArray)) (cutStr ws23 (some (w64 (w64 (3 * wn6) - 3))) (some (w64 (3 * wn6))))) ({ data := #[45] } : ByteArray)) ws25) ({ data := #[32] } : ByteArray)) ws27).size + 1).ble maxStr)
                            (optK (K f_ref07_digits [iv (w64 ((t0.tmod 3600).tdiv 60)), iv 2]) fun wv28 =>
                            Ab.asStr wv28 fun ws29 =>
                            br (((catStr (catStr (catStr (catStr (catStr (catStr (catStr ws9 ({ data := #[45] } : ByteArray)) (cutStr ws23 (some (w64 (w64 (3 * wn6) - 3))) (some (w64 (3 * wn6))))) ({ data := #[45] } : ByteArray)) ws25) ({ data := #[32] } : ByteArray)) ws27) ({ data := #[58] } : ByteArray)).size + ws29.size).ble maxStr)
                              (br (((catStr (catStr (catStr (catStr (catStr (catStr (catStr (catStr ws9 ({ data := #[45] } : ByteArray)) (cutStr ws23 (some (w64 (w64 (3 * wn6) - 3))) (some (w64 (3 * wn6))))) ({ data := #[45] } : ByteArray)) ws25) ({ data := #[32] } : ByteArray)) ws27) ({ data := #[58] } : ByteArray)) ws29).size + 1).ble maxStr)
                                (optK (K f_ref07_digits [iv (t0.tmod 60), iv 2]) fun wv30 =>
                                Ab.asStr wv30 fun ws31 =>
                                br (((catStr (catStr (catStr (catStr (catStr (catStr (catStr (catStr (catStr ws9 ({ data := #[45] } : ByteArray)) (cutStr ws23 (some (w64 (w64 (3 * wn6) - 3))) (some (w64 (3 * wn6))))) ({ data := #[45] } : ByteArray)) ws25) ({ data := #[32] } : ByteArray)) ws27) ({ data := #[58] } : ByteArray)) ws29) ({ data := #[58] } : ByteArray)).size + ws31.size).ble maxStr)
                                  (br (((catStr (catStr (catStr (catStr (catStr (catStr (catStr (catStr (catStr (catStr ws9 ({ data := #[45] } : ByteArray)) (cutStr ws23 (some (w64 (w64 (3 * wn6) - 3))) (some (w64 (3 * wn6))))) ({ data := #[45] } : ByteArray)) ws25) ({ data := #[32] } : ByteArray)) ws27) ({ data := #[58] } : ByteArray)) ws29) ({ data := #[58] } : ByteArray)) ws31).size + 6).ble maxStr)
                                    (some (AV.tup [sv (catStr (catStr (catStr (catStr (catStr (catStr (catStr (catStr (catStr (catStr (catStr ws9 ({ data := #[45] } : ByteArray)) (cutStr ws23 (some (w64 (w64 (3 * wn6) - 3))) (some (w64 (3 * wn6))))) ({ data := #[45] } : ByteArray)) ws25) ({ data := #[32] } : ByteArray)) ws27) ({ data := #[58] } : ByteArray)) ws29) ({ data := #[58] } : ByteArray)) ws31) ({ data := #[32, 43, 48, 48, 48, 48] } : ByteArray)), iv 0]))
                                    (none))
                                  (none))
                                (none))
                              (none))
                            (none))
                          (none))
                        (none))
                      (none))
                    (none))
                  (none))
                (none))
              (none))
            (none))
          (none)))
theorem topref07_Print (K : PureK) (t0 : Int) : topK X K 0 f_ref07_Print [(.v (.int .i64 t0))] = Rref07_Print K t0 := by kernel_rfl
theorem pcref07_Print {K : PureK} (hK : KOk X K) {t0 : Int} {v : AV} (h : Rref07_Print K t0 = some v) : PureCall X f_ref07_Print [(.v (.int .i64 t0))] v := by
  have hSo0 := soundX
  exact tell_top (X := X) (Y := X) rfl rfl hSo0 hK ((topref07_Print K t0).trans h)

/-! 3: escheat/escheatlaw07.DateTexts -/
noncomputable def Rlaw07_DateTexts (K : PureK) (s0 : ByteArray) (t1 : Int) : Option AV :=
  optK (K f_law07_alive []) fun wv1 =>
    Ab.asBool wv1 fun wb2 =>
    br (!wb2)
      (some (bv false))
      (br (decide (((s0.size : Nat) : Int) > 300))
        (some (bv true))
        (optK (K f_date_Parse [sv s0]) fun wv3 =>
        Ab.asTup wv3 2 fun wg4 =>
        Ab.asInt (wg4 0) .i64 fun wn5 =>
        Ab.asInt (wg4 1) .i64 fun wn6 =>
        optK (K f_ref07_Parse [sv s0]) fun wv7 =>
        Ab.asTup wv7 2 fun wg8 =>
        Ab.asInt (wg8 0) .i64 fun wn9 =>
        Ab.asInt (wg8 1) .i64 fun wn10 =>
        optK (K f_date_Short [sv s0]) fun wv11 =>
        Ab.asTup wv11 2 fun wg12 =>
        Ab.asInt (wg12 0) .i64 fun wn13 =>
        Ab.asInt (wg12 1) .i64 fun wn14 =>
        optK (K f_ref07_Short [sv s0]) fun wv15 =>
        Ab.asTup wv15 2 fun wg16 =>
        Ab.asInt (wg16 0) .i64 fun wn17 =>
        Ab.asInt (wg16 1) .i64 fun wn18 =>
        optK (K f_date_Mail [sv s0]) fun wv19 =>
        Ab.asTup wv19 2 fun wg20 =>
        Ab.asInt (wg20 0) .i64 fun wn21 =>
        Ab.asInt (wg20 1) .i64 fun wn22 =>
        optK (K f_ref07_Mail [sv s0]) fun wv23 =>
        Ab.asTup wv23 2 fun wg24 =>
        Ab.asInt (wg24 0) .i64 fun wn25 =>
        Ab.asInt (wg24 1) .i64 fun wn26 =>
        optK (K f_date_Print [iv t1]) fun wv27 =>
        Ab.asTup wv27 2 fun wg28 =>
        Ab.asStr (wg28 0) fun ws29 =>
        Ab.asInt (wg28 1) .i64 fun wn30 =>
        optK (K f_ref07_Print [iv t1]) fun wv31 =>
        Ab.asTup wv31 2 fun wg32 =>
        Ab.asStr (wg32 0) fun ws33 =>
        Ab.asInt (wg32 1) .i64 fun wn34 =>
        optK (br (wn5 == wn9)
            (br (wn6 == wn10)
              (br (wn13 == wn17)
                (br (wn14 == wn18)
                  (br (wn21 == wn25)
                    (br (wn22 == wn26)
                      (br (strEq ws29 ws33)
                        (br (wn30 == wn34)
                          (optK (K f_date_Day [iv t1]) fun wv36 =>
                          Ab.asInt wv36 .i64 fun wn37 =>
                          optK (K f_ref07_Day [iv t1]) fun wv38 =>
                          Ab.asInt wv38 .i64 fun wn39 =>
                          some (bv (wn37 == wn39)))
                          (some (bv false)))
                        (some (bv false)))
                      (some (bv false)))
                    (some (bv false)))
                  (some (bv false)))
                (some (bv false)))
              (some (bv false)))
            (some (bv false))) fun wv35 =>
        Ab.asBool wv35 fun wb40 =>
        some (bv wb40)))
theorem toplaw07_DateTexts (K : PureK) (s0 : ByteArray) (t1 : Int) : topK X K 0 f_law07_DateTexts [(.v (.string s0)), (.v (.int .i64 t1))] = Rlaw07_DateTexts K s0 t1 := by kernel_rfl
theorem pclaw07_DateTexts {K : PureK} (hK : KOk X K) {s0 : ByteArray} {t1 : Int} {v : AV} (h : Rlaw07_DateTexts K s0 t1 = some v) : PureCall X f_law07_DateTexts [(.v (.string s0)), (.v (.int .i64 t1))] v := by
  have hSo0 := soundX
  exact tell_top (X := X) (Y := X) rfl rfl hSo0 hK ((toplaw07_DateTexts K s0 t1).trans h)


/-! 5: escheat/escheatlaw07.alive -/
noncomputable def Rlaw07_alive (K : PureK) : Option AV :=
  optK (K f_date_Parse [sv ({ data := #[49, 55, 45, 74, 117, 108, 45, 49, 57, 57, 54, 32, 48, 50, 58, 52, 52, 58, 50, 53, 32, 45, 48, 55, 48, 48] } : ByteArray)]) fun wv1 =>
    Ab.asTup wv1 2 fun wg2 =>
    Ab.asInt (wg2 0) .i64 fun wn3 =>
    Ab.asInt (wg2 1) .i64 fun wn4 =>
    optK (K f_date_Print [iv wn3]) fun wv5 =>
    Ab.asTup wv5 2 fun wg6 =>
    Ab.asStr (wg6 0) fun ws7 =>
    Ab.asInt (wg6 1) .i64 fun wn8 =>
    optK (K f_date_Short [sv ({ data := #[49, 45, 70, 101, 98, 45, 49, 57, 57, 52] } : ByteArray)]) fun wv9 =>
    Ab.asTup wv9 2 fun wg10 =>
    Ab.asInt (wg10 0) .i64 fun wn11 =>
    Ab.asInt (wg10 1) .i64 fun wn12 =>
    optK (K f_date_Mail [sv ({ data := #[87, 101, 100, 44, 32, 49, 55, 32, 74, 117, 108, 32, 49, 57, 57, 54, 32, 48, 50, 58, 50, 51, 58, 50, 53, 32, 45, 48, 55, 48, 48, 32, 40, 80, 68, 84, 41] } : ByteArray)]) fun wv13 =>
    Ab.asTup wv13 2 fun wg14 =>
    Ab.asInt (wg14 0) .i64 fun wn15 =>
    Ab.asInt (wg14 1) .i64 fun wn16 =>
    optK (K f_date_Civil [iv wn15]) fun wv17 =>
    Ab.asTup wv17 3 fun wg18 =>
    Ab.asInt (wg18 0) .i64 fun wn19 =>
    Ab.asInt (wg18 1) .i64 fun wn20 =>
    Ab.asInt (wg18 2) .i64 fun wn21 =>
    optK (br (wn4 == 0)
        (br (wn8 == 0)
          (br (wn12 == 0)
            (br (wn16 == 0)
              (br (wn3 == 837596665)
                (br (strEq ws7 ({ data := #[49, 55, 45, 74, 117, 108, 45, 49, 57, 57, 54, 32, 48, 57, 58, 52, 52, 58, 50, 53, 32, 43, 48, 48, 48, 48] } : ByteArray))
                  (br (wn11 == 8797)
                    (br (wn19 == 1996)
                      (br (wn20 == 7)
                        (some (bv (wn21 == 17)))
                        (some (bv false)))
                      (some (bv false)))
                    (some (bv false)))
                  (some (bv false)))
                (some (bv false)))
              (some (bv false)))
            (some (bv false)))
          (some (bv false)))
        (some (bv false))) fun wv22 =>
    Ab.asBool wv22 fun wb23 =>
    some (bv wb23)
theorem toplaw07_alive (K : PureK) : topK X K 0 f_law07_alive [] = Rlaw07_alive K := by kernel_rfl
theorem pclaw07_alive {K : PureK} (hK : KOk X K) {v : AV} (h : Rlaw07_alive K = some v) : PureCall X f_law07_alive [] v := by
  have hSo0 := soundX
  exact tell_top (X := X) (Y := X) rfl rfl hSo0 hK ((toplaw07_alive K).trans h)

end Go.Proofs.YtmiffikcnkgcpaaGreatDoor
