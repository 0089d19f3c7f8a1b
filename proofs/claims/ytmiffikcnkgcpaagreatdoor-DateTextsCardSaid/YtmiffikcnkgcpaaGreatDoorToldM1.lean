/- What functions of the library and of date do, told. -/
import Derived.Test.YtmiffikcnkgcpaaGreatDoorCtx
set_option linter.unusedVariables false
set_option linter.unusedSimpArgs false
set_option maxRecDepth 100000
namespace Go.Proofs.YtmiffikcnkgcpaaGreatDoor
open Go Go.Ab

/-! 20: strings.Split -/
noncomputable def Rstrings_Split (K : PureK) (s0 : ByteArray) (sep1 : ByteArray) : Option AV :=
  optK (K f_strings_genSplit [sv s0, sv sep1, iv 0, iv (-1)]) fun wv1 =>
    Ab.asLst wv1 1 fun wb2 wr2 =>
    some (AV.lst 1 wb2 wr2)
theorem topstrings_Split (K : PureK) (s0 : ByteArray) (sep1 : ByteArray) : topK X K 0 f_strings_Split [(.v (.string s0)), (.v (.string sep1))] = Rstrings_Split K s0 sep1 := by kernel_rfl
theorem pcstrings_Split {K : PureK} (hK : KOk X K) {s0 : ByteArray} {sep1 : ByteArray} {v : AV} (h : Rstrings_Split K s0 sep1 = some v) : PureCall X f_strings_Split [(.v (.string s0)), (.v (.string sep1))] v := by
  have hSo0 := soundX
  exact tell_top (X := X) (Y := X) rfl rfl hSo0 hK ((topstrings_Split K s0 sep1).trans h)

/-! 45: strings.genSplit -/
inductive Sstrings_genSplit_0 where
  | s0 (s0 : ByteArray) (sep1 : ByteArray) (sepSave2 : Int) (n3 : Int) (i10 : Int) (obj0 : List AV)

inductive Ostrings_genSplit_0 where
  | x0 (s0 : ByteArray) (i10 : Int) (obj0 : List AV)

def Ostrings_genSplit_0.k {β : Type} (o : Ostrings_genSplit_0) (c0 : ByteArray → Int → (List AV) → Option β) : Option β := match o with
  | .x0 s0 i10 obj0 => c0 s0 i10 obj0

def Estrings_genSplit_0 : Sstrings_genSplit_0 → Env
  | .s0 s0 sep1 sepSave2 n3 i10 obj0 => [(.v (.string s0)), (.v (.string sep1)), (.v (.int .i64 sepSave2)), (.v (.int .i64 n3)), .dead, .dead, .dead, .dead, .dead, (.own 0 0 0 none), (.v (.int .i64 i10)), .dead, .dead, .dead, .dead, .dead, .dead, .dead, .dead, .dead, .dead, .dead, .dead, .dead, .dead, .dead, .dead, .dead, .dead, .dead, .dead, .dead, .dead, .dead, .dead, .dead, .dead, .dead, .dead, .dead, .dead, .dead, .dead, .dead, .dead, .dead, .dead, .dead, .dead, .dead, .dead, .dead, .dead, .dead, .dead, .dead, .dead, .dead, .dead, .dead, .dead, .dead, .dead, .dead, .dead, .dead]

def Hstrings_genSplit_0 : Sstrings_genSplit_0 → Heap
  | .s0 s0 sep1 sepSave2 n3 i10 obj0 => [⟨obj0, 0, 0, true, false, 9, 1, none⟩]

def Tstrings_genSplit_0 {β : Type} (k : Ex → Env → Heap → Option β) (o : Ostrings_genSplit_0) : Option β := Ostrings_genSplit_0.k o (fun s0 i10 obj0 => k (.exit 0) [(.v (.string s0)), .dead, .dead, .dead, .dead, .dead, .dead, .dead, .dead, (.own 0 0 0 none), (.v (.int .i64 i10)), .dead, .dead, .dead, .dead, .dead, .dead, .dead, .dead, .dead, .dead, .dead, .dead, .dead, .dead, .dead, .dead, .dead, .dead, .dead, .dead, .dead, .dead, .dead, .dead, .dead, .dead, .dead, .dead, .dead, .dead, .dead, .dead, .dead, .dead, .dead, .dead, .dead, .dead, .dead, .dead, .dead, .dead, .dead, .dead, .dead, .dead, .dead, .dead, .dead, .dead, .dead, .dead, .dead, .dead, .dead] [⟨obj0, 0, 0, true, false, 9, 1, none⟩])

def Fstrings_genSplit_0 (lstrings_genSplit_0 : Sstrings_genSplit_0 → Option Ostrings_genSplit_0) : LoopF := ⟨fun e h k => match Nat.beq e.length 66 with
  | true => (match e.getD 0 .dead, e.getD 1 .dead, e.getD 2 .dead, e.getD 3 .dead, e.getD 9 .dead, e.getD 10 .dead, h with
    | (.v (.string s0)), (.v (.string sep1)), (.v (.int .i64 sepSave2)), (.v (.int .i64 n3)), (.own 0 0 0 none), (.v (.int .i64 i10)), [⟨obj0, 0, 0, true, false, 9, 1, none⟩] => optK (lstrings_genSplit_0 (.s0 s0 sep1 sepSave2 n3 i10 obj0)) (Tstrings_genSplit_0 k)
    | _, _, _, _, _, _, _ => none)
  | false => none⟩

def clstrings_genSplit_0 : List Tmp := [4, 5, 6, 7, 8, 11, 12, 13, 14, 15, 16, 17, 18, 19, 20, 21, 22, 23, 24, 25, 26, 27, 28, 29, 30, 31, 32, 33, 34, 35, 36, 37, 38, 39, 40, 41, 42, 43, 44, 45, 46, 47, 48, 49, 50, 51, 52, 53, 54, 55, 56, 57, 58, 59, 60, 61, 62, 63, 64, 65]
def clostrings_genSplit_0 : List Tmp := [1, 2, 3, 4, 5, 6, 7, 8, 11, 12, 13, 14, 15, 16, 17, 18, 19, 20, 21, 22, 23, 24, 25, 26, 27, 28, 29, 30, 31, 32, 33, 34, 35, 36, 37, 38, 39, 40, 41, 42, 43, 44, 45, 46, 47, 48, 49, 50, 51, 52, 53, 54, 55, 56, 57, 58, 59, 60, 61, 62, 63, 64, 65]

noncomputable def Rstrings_genSplit_0 {β : Type} (K : PureK) (d : Ostrings_genSplit_0 → Option β) (r : Sstrings_genSplit_0 → Option β) : Sstrings_genSplit_0 → Option β
  | .s0 s0 sep1 sepSave2 n3 i10 obj0 =>
    br (decide (i10 < n3))
      (optK (K f_strings_Index [sv s0, sv sep1]) fun wv1 =>
      Ab.asInt wv1 .i64 fun wn2 =>
      br (decide (wn2 < 0))
        (d (.x0 s0 i10 obj0))
        (br (decide (0 ≤ w64 (wn2 + sepSave2)))
          (br (decide (w64 (wn2 + sepSave2) ≤ ((s0.size : Nat) : Int)))
            (br (decide (0 ≤ i10))
              (br (decide (i10 < ((obj0.length : Nat) : Int)))
                (br (decide (0 ≤ w64 (wn2 + ((sep1.size : Nat) : Int))))
                  (br (decide (w64 (wn2 + ((sep1.size : Nat) : Int)) ≤ ((s0.size : Nat) : Int)))
                    (r (.s0 (cutStr s0 (some (w64 (wn2 + ((sep1.size : Nat) : Int)))) none) sep1 sepSave2 n3 (w64 (i10 + 1)) (obj0.set (0 + i10.toNat) (sv (cutStr s0 none (some (w64 (wn2 + sepSave2))))))))
                    (none))
                  (none))
                (none))
              (none))
            (none))
          (none)))
      (d (.x0 s0 i10 obj0))
theorem roundstrings_genSplit_0 (K : PureK) {β : Type} (r : Env → Heap → Option β) (k : Ex → Env → Heap → Option β) (s : Sstrings_genSplit_0) : tellOne X K 0 45 0 [(1, 1, 0), (2, 1, 0), (3, 1, 0)] 1 clstrings_genSplit_0 clostrings_genSplit_0 r k (Estrings_genSplit_0 s) (Hstrings_genSplit_0 s) = Rstrings_genSplit_0 K (Tstrings_genSplit_0 k) (fun s => r (Estrings_genSplit_0 s) (Hstrings_genSplit_0 s)) s := by
  cases s <;> kernel_rfl
theorem Ostrings_genSplit_0.bind_k {β γ : Type} (o : Ostrings_genSplit_0) (c0 : ByteArray → Int → (List AV) → Option β) (φ : β → Option γ) : (Ostrings_genSplit_0.k o c0).bind φ = Ostrings_genSplit_0.k o (fun s0 i10 obj0 => (c0 s0 i10 obj0).bind φ) := by cases o <;> rfl
theorem natstrings_genSplit_0 (K : PureK) {β γ : Type} (φ : β → Option γ) (d : Ostrings_genSplit_0 → Option β) (r : Sstrings_genSplit_0 → Option β) (s : Sstrings_genSplit_0) : Rstrings_genSplit_0 K (fun o => (d o).bind φ) (fun s => (r s).bind φ) s = (Rstrings_genSplit_0 K d r s).bind φ := by
  cases s <;> simp only [Rstrings_genSplit_0, bind_optK, bind_br, bind_asInt, bind_asBool, bind_asStr, bind_asLst, bind_asAgg, bind_asTup, bind_asBig, bind_asErr, bind_none]
theorem outstrings_genSplit_0 (o : Ostrings_genSplit_0) : ∃ x e' h', ∀ {β : Type} (k : Ex → Env → Heap → Option β), Tstrings_genSplit_0 k o = k x e' h' := by cases o <;> exact ⟨_, _, _, fun _ => rfl⟩
theorem okstrings_genSplit_0 {K : PureK} (hX : Sound X) (hK : KOk X K) {lstrings_genSplit_0 : Sstrings_genSplit_0 → Option Ostrings_genSplit_0} (hl : ∀ s o, lstrings_genSplit_0 s = some o → ∃ m, fuelRec (Rstrings_genSplit_0 K some) m s = some o) (β : Type) (e : Env) (h : Heap) (k : Ex → Env → Heap → Option β) (r : β) (hr : (Fstrings_genSplit_0 lstrings_genSplit_0).run e h k = some r) : ∃ x e' h', k x e' h' = some r ∧ CodeAt X (.loop (loopBody (X).P 45 0)) e h x e' h' := by
  obtain ⟨fn, c, hin⟩ := loopIn_of (X := X) (f := 45) (i := 0) (key := 11) (by kernel_rfl)
  simp only [Fstrings_genSplit_0] at hr
  split at hr
  · rename_i hlen
    have hlen := Nat.eq_of_beq_eq_true hlen
    split at hr
    · rename_i q0 q1 q2 q3 q9 q10
      obtain ⟨o, ho, hr⟩ := optK_some hr
      refine tell_ok hX (KOk.congr (X := X) (Y := X) rfl rfl hK) hin (E := Estrings_genSplit_0) (H := Hstrings_genSplit_0) (R := fun d r => Rstrings_genSplit_0 K d r) (T := Tstrings_genSplit_0) (ts := [(1, 1, 0), (2, 1, 0), (3, 1, 0)]) (len := 1) (cl := clstrings_genSplit_0) (clo := clostrings_genSplit_0) (roundstrings_genSplit_0 K) (natstrings_genSplit_0 K) outstrings_genSplit_0 (hl _ _ ho) (cl0 := clstrings_genSplit_0) (ts0 := []) ?_ rfl (by kernel_rfl) (by kernel_rfl) hr
      rw [clear_lit e 66 hlen, show clearEnv clstrings_genSplit_0 ((List.range 66).map fun i => e.getD i .dead) = [e.getD 0 .dead, e.getD 1 .dead, e.getD 2 .dead, e.getD 3 .dead, .dead, .dead, .dead, .dead, .dead, e.getD 9 .dead, e.getD 10 .dead, .dead, .dead, .dead, .dead, .dead, .dead, .dead, .dead, .dead, .dead, .dead, .dead, .dead, .dead, .dead, .dead, .dead, .dead, .dead, .dead, .dead, .dead, .dead, .dead, .dead, .dead, .dead, .dead, .dead, .dead, .dead, .dead, .dead, .dead, .dead, .dead, .dead, .dead, .dead, .dead, .dead, .dead, .dead, .dead, .dead, .dead, .dead, .dead, .dead, .dead, .dead, .dead, .dead, .dead, .dead] from by kernel_rfl]; rw [q0, q1, q2, q3, q9, q10]
      kernel_rfl
    · cases hr
  · cases hr
noncomputable def Rstrings_genSplit (K : PureK) (lstrings_genSplit_0 : Sstrings_genSplit_0 → Option Ostrings_genSplit_0) (s0 : ByteArray) (sep1 : ByteArray) (sepSave2 : Int) (n3 : Int) : Option AV :=
  br (n3 == 0)
      (some (AV.lst 1 true []))
      (br (strEq sep1 ({ data := #[] } : ByteArray))
        (optK (K f_strings_explode [sv s0, iv n3]) fun wv5 =>
        Ab.asLst wv5 1 fun wb6 wr6 =>
        some (AV.lst 1 wb6 wr6))
        (br (decide (n3 < 0))
          (optK (K f_strings_Count [sv s0, sv sep1]) fun wv7 =>
          Ab.asInt wv7 .i64 fun wn8 =>
          br (decide (0 ≤ if w64 (((s0.size : Nat) : Int) + 1) < w64 (wn8 + 1) then w64 (((s0.size : Nat) : Int) + 1) else w64 (wn8 + 1)))
            (br (decide ((if w64 (((s0.size : Nat) : Int) + 1) < w64 (wn8 + 1) then w64 (((s0.size : Nat) : Int) + 1) else w64 (wn8 + 1)) ≤ if w64 (((s0.size : Nat) : Int) + 1) < w64 (wn8 + 1) then w64 (((s0.size : Nat) : Int) + 1) else w64 (wn8 + 1)))
              (br (lenOk (if w64 (((s0.size : Nat) : Int) + 1) < w64 (wn8 + 1) then w64 (((s0.size : Nat) : Int) + 1) else w64 (wn8 + 1)).toNat 16 && lenOk (if w64 (((s0.size : Nat) : Int) + 1) < w64 (wn8 + 1) then w64 (((s0.size : Nat) : Int) + 1) else w64 (wn8 + 1)).toNat 1)
                (optK (lstrings_genSplit_0 (Sstrings_genSplit_0.s0 s0 sep1 sepSave2 (w64 ((if w64 (((s0.size : Nat) : Int) + 1) < w64 (wn8 + 1) then w64 (((s0.size : Nat) : Int) + 1) else w64 (wn8 + 1)) - 1)) 0 (List.replicate (if w64 (((s0.size : Nat) : Int) + 1) < w64 (wn8 + 1) then w64 (((s0.size : Nat) : Int) + 1) else w64 (wn8 + 1)).toNat (sv ({ data := #[] } : ByteArray))))) fun wo9 => Ostrings_genSplit_0.k wo9 (fun (s0_10 : ByteArray) (i10_10 : Int) (obj0_10 : List AV) =>
                br (decide (0 ≤ i10_10))
                  (br (decide (i10_10 < ((obj0_10.length : Nat) : Int)))
                    (br (decide (0 ≤ w64 (i10_10 + 1)))
                      (br (decide (w64 (i10_10 + 1) ≤ (((obj0_10.set (0 + i10_10.toNat) (sv s0_10)).length : Nat) : Int)))
                        (some (AV.lst 1 false (List.take (w64 (i10_10 + 1)).toNat (obj0_10.set (0 + i10_10.toNat) (sv s0_10)))))
                        (none))
                      (none))
                    (none))
                  (none)))
                (none))
              (none))
            (none))
          (br (decide (0 ≤ if w64 (((s0.size : Nat) : Int) + 1) < n3 then w64 (((s0.size : Nat) : Int) + 1) else n3))
            (br (decide ((if w64 (((s0.size : Nat) : Int) + 1) < n3 then w64 (((s0.size : Nat) : Int) + 1) else n3) ≤ if w64 (((s0.size : Nat) : Int) + 1) < n3 then w64 (((s0.size : Nat) : Int) + 1) else n3))
              (br (lenOk (if w64 (((s0.size : Nat) : Int) + 1) < n3 then w64 (((s0.size : Nat) : Int) + 1) else n3).toNat 16 && lenOk (if w64 (((s0.size : Nat) : Int) + 1) < n3 then w64 (((s0.size : Nat) : Int) + 1) else n3).toNat 1)
                (optK (lstrings_genSplit_0 (Sstrings_genSplit_0.s0 s0 sep1 sepSave2 (w64 ((if w64 (((s0.size : Nat) : Int) + 1) < n3 then w64 (((s0.size : Nat) : Int) + 1) else n3) - 1)) 0 (List.replicate (if w64 (((s0.size : Nat) : Int) + 1) < n3 then w64 (((s0.size : Nat) : Int) + 1) else n3).toNat (sv ({ data := #[] } : ByteArray))))) fun wo11 => Ostrings_genSplit_0.k wo11 (fun (s0_12 : ByteArray) (i10_12 : Int) (obj0_12 : List AV) =>
                br (decide (0 ≤ i10_12))
                  (br (decide (i10_12 < ((obj0_12.length : Nat) : Int)))
                    (br (decide (0 ≤ w64 (i10_12 + 1)))
                      (br (decide (w64 (i10_12 + 1) ≤ (((obj0_12.set (0 + i10_12.toNat) (sv s0_12)).length : Nat) : Int)))
                        (some (AV.lst 1 false (List.take (w64 (i10_12 + 1)).toNat (obj0_12.set (0 + i10_12.toNat) (sv s0_12)))))
                        (none))
                      (none))
                    (none))
                  (none)))
                (none))
              (none))
            (none))))
theorem topstrings_genSplit (K : PureK) (lstrings_genSplit_0 : Sstrings_genSplit_0 → Option Ostrings_genSplit_0) (s0 : ByteArray) (sep1 : ByteArray) (sepSave2 : Int) (n3 : Int) : topK (addLp X 45 11 (Fstrings_genSplit_0 lstrings_genSplit_0)) K 0 f_strings_genSplit [(.v (.string s0)), (.v (.string sep1)), (.v (.int .i64 sepSave2)), (.v (.int .i64 n3))] = Rstrings_genSplit K lstrings_genSplit_0 s0 sep1 sepSave2 n3 := by kernel_rfl
theorem pcstrings_genSplit {K : PureK} (hK : KOk X K) {lstrings_genSplit_0 : Sstrings_genSplit_0 → Option Ostrings_genSplit_0} (hstrings_genSplit_0 : ∀ s o, lstrings_genSplit_0 s = some o → ∃ m, fuelRec (Rstrings_genSplit_0 K some) m s = some o) {s0 : ByteArray} {sep1 : ByteArray} {sepSave2 : Int} {n3 : Int} {v : AV} (h : Rstrings_genSplit K lstrings_genSplit_0 s0 sep1 sepSave2 n3 = some v) : PureCall X f_strings_genSplit [(.v (.string s0)), (.v (.string sep1)), (.v (.int .i64 sepSave2)), (.v (.int .i64 n3))] v := by
  have hSo0 := soundX
  obtain ⟨_, _, hin0⟩ := loopIn_of (X := X) (f := 45) (i := 0) (key := 11) (by kernel_rfl)
  have hSo1 := sound_add hSo0 hin0 (okstrings_genSplit_0 hSo0 hK hstrings_genSplit_0)
  exact tell_top (X := X) (Y := (addLp X 45 11 (Fstrings_genSplit_0 lstrings_genSplit_0))) rfl rfl hSo1 hK ((topstrings_genSplit K lstrings_genSplit_0 s0 sep1 sepSave2 n3).trans h)

/-! 60: strings.Count -/
inductive Sstrings_Count_0 where
  | s0 (s0 : ByteArray) (substr1 : ByteArray) (n5 : Int)

inductive Ostrings_Count_0 where
  | x0 (t4 : Int)

def Ostrings_Count_0.k {β : Type} (o : Ostrings_Count_0) (c0 : Int → Option β) : Option β := match o with
  | .x0 t4 => c0 t4

def Estrings_Count_0 : Sstrings_Count_0 → Env
  | .s0 s0 substr1 n5 => [(.v (.string s0)), (.v (.string substr1)), .dead, .dead, .dead, (.v (.int .i64 n5)), .dead, .dead, .dead, .dead, .dead, .dead, .dead, .dead, .dead, .dead, .dead, .dead, .dead, .dead, .dead, .dead, .dead, .dead, .dead, .dead, .dead, .dead, .dead, .dead, .dead, .dead, .dead, .dead]

def Hstrings_Count_0 : Sstrings_Count_0 → Heap
  | .s0 s0 substr1 n5 => []

def Tstrings_Count_0 {β : Type} (k : Ex → Env → Heap → Option β) (o : Ostrings_Count_0) : Option β := Ostrings_Count_0.k o (fun t4 => k .ret [.dead, .dead, .dead, .dead, (.v (.int .i64 t4)), .dead, .dead, .dead, .dead, .dead, .dead, .dead, .dead, .dead, .dead, .dead, .dead, .dead, .dead, .dead, .dead, .dead, .dead, .dead, .dead, .dead, .dead, .dead, .dead, .dead, .dead, .dead, .dead, .dead] [])

def Fstrings_Count_0 (lstrings_Count_0 : Sstrings_Count_0 → Option Ostrings_Count_0) : LoopF := ⟨fun e h k => match Nat.beq e.length 34 with
  | true => (match e.getD 0 .dead, e.getD 1 .dead, e.getD 5 .dead, h with
    | (.v (.string s0)), (.v (.string substr1)), (.v (.int .i64 n5)), [] => optK (lstrings_Count_0 (.s0 s0 substr1 n5)) (Tstrings_Count_0 k)
    | _, _, _, _ => none)
  | false => none⟩

def clstrings_Count_0 : List Tmp := [2, 3, 4, 6, 7, 8, 9, 10, 11, 12, 13, 14, 15, 16, 17, 18, 19, 20, 21, 22, 23, 24, 25, 26, 27, 28, 29, 30, 31, 32, 33]
def clostrings_Count_0 : List Tmp := [0, 1, 2, 3, 5, 6, 7, 8, 9, 10, 11, 12, 13, 14, 15, 16, 17, 18, 19, 20, 21, 22, 23, 24, 25, 26, 27, 28, 29, 30, 31, 32, 33]

noncomputable def Rstrings_Count_0 {β : Type} (K : PureK) (d : Ostrings_Count_0 → Option β) (r : Sstrings_Count_0 → Option β) : Sstrings_Count_0 → Option β
  | .s0 s0 substr1 n5 =>
    optK (K f_strings_Index [sv s0, sv substr1]) fun wv1 =>
    Ab.asInt wv1 .i64 fun wn2 =>
    br (wn2 == -1)
      (d (.x0 n5))
      (br (decide (0 ≤ w64 (wn2 + ((substr1.size : Nat) : Int))))
        (br (decide (w64 (wn2 + ((substr1.size : Nat) : Int)) ≤ ((s0.size : Nat) : Int)))
          (r (.s0 (cutStr s0 (some (w64 (wn2 + ((substr1.size : Nat) : Int)))) none) substr1 (w64 (n5 + 1))))
          (none))
        (none))
theorem roundstrings_Count_0 (K : PureK) {β : Type} (r : Env → Heap → Option β) (k : Ex → Env → Heap → Option β) (s : Sstrings_Count_0) : tellOne X K 0 60 0 [(0, 1, 0), (1, 1, 0), (2, 1, 0)] 0 clstrings_Count_0 clostrings_Count_0 r k (Estrings_Count_0 s) (Hstrings_Count_0 s) = Rstrings_Count_0 K (Tstrings_Count_0 k) (fun s => r (Estrings_Count_0 s) (Hstrings_Count_0 s)) s := by
  cases s <;> kernel_rfl
theorem Ostrings_Count_0.bind_k {β γ : Type} (o : Ostrings_Count_0) (c0 : Int → Option β) (φ : β → Option γ) : (Ostrings_Count_0.k o c0).bind φ = Ostrings_Count_0.k o (fun t4 => (c0 t4).bind φ) := by cases o <;> rfl
theorem natstrings_Count_0 (K : PureK) {β γ : Type} (φ : β → Option γ) (d : Ostrings_Count_0 → Option β) (r : Sstrings_Count_0 → Option β) (s : Sstrings_Count_0) : Rstrings_Count_0 K (fun o => (d o).bind φ) (fun s => (r s).bind φ) s = (Rstrings_Count_0 K d r s).bind φ := by
  cases s <;> simp only [Rstrings_Count_0, bind_optK, bind_br, bind_asInt, bind_asBool, bind_asStr, bind_asLst, bind_asAgg, bind_asTup, bind_asBig, bind_asErr, bind_none]
theorem outstrings_Count_0 (o : Ostrings_Count_0) : ∃ x e' h', ∀ {β : Type} (k : Ex → Env → Heap → Option β), Tstrings_Count_0 k o = k x e' h' := by cases o <;> exact ⟨_, _, _, fun _ => rfl⟩
theorem okstrings_Count_0 {K : PureK} (hX : Sound X) (hK : KOk X K) {lstrings_Count_0 : Sstrings_Count_0 → Option Ostrings_Count_0} (hl : ∀ s o, lstrings_Count_0 s = some o → ∃ m, fuelRec (Rstrings_Count_0 K some) m s = some o) (β : Type) (e : Env) (h : Heap) (k : Ex → Env → Heap → Option β) (r : β) (hr : (Fstrings_Count_0 lstrings_Count_0).run e h k = some r) : ∃ x e' h', k x e' h' = some r ∧ CodeAt X (.loop (loopBody (X).P 60 0)) e h x e' h' := by
  obtain ⟨fn, c, hin⟩ := loopIn_of (X := X) (f := 60) (i := 0) (key := 6) (by kernel_rfl)
  simp only [Fstrings_Count_0] at hr
  split at hr
  · rename_i hlen
    have hlen := Nat.eq_of_beq_eq_true hlen
    split at hr
    · rename_i q0 q1 q5
      obtain ⟨o, ho, hr⟩ := optK_some hr
      refine tell_ok hX (KOk.congr (X := X) (Y := X) rfl rfl hK) hin (E := Estrings_Count_0) (H := Hstrings_Count_0) (R := fun d r => Rstrings_Count_0 K d r) (T := Tstrings_Count_0) (ts := [(0, 1, 0), (1, 1, 0), (2, 1, 0)]) (len := 0) (cl := clstrings_Count_0) (clo := clostrings_Count_0) (roundstrings_Count_0 K) (natstrings_Count_0 K) outstrings_Count_0 (hl _ _ ho) (cl0 := clstrings_Count_0) (ts0 := []) ?_ rfl (by kernel_rfl) (by kernel_rfl) hr
      rw [clear_lit e 34 hlen, show clearEnv clstrings_Count_0 ((List.range 34).map fun i => e.getD i .dead) = [e.getD 0 .dead, e.getD 1 .dead, .dead, .dead, .dead, e.getD 5 .dead, .dead, .dead, .dead, .dead, .dead, .dead, .dead, .dead, .dead, .dead, .dead, .dead, .dead, .dead, .dead, .dead, .dead, .dead, .dead, .dead, .dead, .dead, .dead, .dead, .dead, .dead, .dead, .dead] from by kernel_rfl]; rw [q0, q1, q5]
      kernel_rfl
    · cases hr
  · cases hr
noncomputable def Rstrings_Count (K : PureK) (lstrings_Count_0 : Sstrings_Count_0 → Option Ostrings_Count_0) (s0 : ByteArray) (substr1 : ByteArray) : Option AV :=
  br (((substr1.size : Nat) : Int) == 0)
      (optK (K f_utf8_RuneCountInString [sv s0]) fun wv5 =>
      Ab.asInt wv5 .i64 fun wn6 =>
      some (iv (w64 (wn6 + 1))))
      (br (((substr1.size : Nat) : Int) == 1)
        (br (decide (0 < ((substr1.size : Nat) : Int)))
          (optK (K f_i_bytealg_CountString [sv s0, uv (bt substr1 0)]) fun wv7 =>
          Ab.asInt wv7 .i64 fun wn8 =>
          some (iv wn8))
          (none))
        (optK (lstrings_Count_0 (Sstrings_Count_0.s0 s0 substr1 0)) fun wo9 => Ostrings_Count_0.k wo9 (fun (t4_10 : Int) =>
        some (iv t4_10))))
theorem topstrings_Count (K : PureK) (lstrings_Count_0 : Sstrings_Count_0 → Option Ostrings_Count_0) (s0 : ByteArray) (substr1 : ByteArray) : topK (addLp X 60 6 (Fstrings_Count_0 lstrings_Count_0)) K 0 f_strings_Count [(.v (.string s0)), (.v (.string substr1))] = Rstrings_Count K lstrings_Count_0 s0 substr1 := by kernel_rfl
theorem pcstrings_Count {K : PureK} (hK : KOk X K) {lstrings_Count_0 : Sstrings_Count_0 → Option Ostrings_Count_0} (hstrings_Count_0 : ∀ s o, lstrings_Count_0 s = some o → ∃ m, fuelRec (Rstrings_Count_0 K some) m s = some o) {s0 : ByteArray} {substr1 : ByteArray} {v : AV} (h : Rstrings_Count K lstrings_Count_0 s0 substr1 = some v) : PureCall X f_strings_Count [(.v (.string s0)), (.v (.string substr1))] v := by
  have hSo0 := soundX
  obtain ⟨_, _, hin0⟩ := loopIn_of (X := X) (f := 60) (i := 0) (key := 6) (by kernel_rfl)
  have hSo1 := sound_add hSo0 hin0 (okstrings_Count_0 hSo0 hK hstrings_Count_0)
  exact tell_top (X := X) (Y := (addLp X 60 6 (Fstrings_Count_0 lstrings_Count_0))) rfl rfl hSo1 hK ((topstrings_Count K lstrings_Count_0 s0 substr1).trans h)

/-! 61: strings.Index -/
noncomputable def Rstrings_Index (K : PureK) (s0 : ByteArray) (substr1 : ByteArray) : Option AV :=
  optK (K f_i_stringslite_Index [sv s0, sv substr1]) fun wv1 =>
    Ab.asInt wv1 .i64 fun wn2 =>
    some (iv wn2)
theorem topstrings_Index (K : PureK) (s0 : ByteArray) (substr1 : ByteArray) : topK X K 0 f_strings_Index [(.v (.string s0)), (.v (.string substr1))] = Rstrings_Index K s0 substr1 := by kernel_rfl
theorem pcstrings_Index {K : PureK} (hK : KOk X K) {s0 : ByteArray} {substr1 : ByteArray} {v : AV} (h : Rstrings_Index K s0 substr1 = some v) : PureCall X f_strings_Index [(.v (.string s0)), (.v (.string substr1))] v := by
  have hSo0 := soundX
  exact tell_top (X := X) (Y := X) rfl rfl hSo0 hK ((topstrings_Index K s0 substr1).trans h)

/-! 76: internal/stringslite.Index -/
noncomputable def Ri_stringslite_Index (K : PureK) (s0 : ByteArray) (substr1 : ByteArray) : Option AV :=
  optK (br (((substr1.size : Nat) : Int) == 0)
        (some (bv true))
        (some (bv (strEq substr1 s0)))) fun wv1 =>
    Ab.asBool wv1 fun wb2 =>
    br wb2
      (some (iv 0))
      (br (((substr1.size : Nat) : Int) == 1)
        (br (decide (0 < ((substr1.size : Nat) : Int)))
          (optK (K f_i_stringslite_IndexByte [sv s0, uv (bt substr1 0)]) fun wv3 =>
          Ab.asInt wv3 .i64 fun wn4 =>
          some (iv wn4))
          (none))
        (br (decide (((substr1.size : Nat) : Int) ≥ ((s0.size : Nat) : Int)))
          (some (iv (-1)))
          (none)))
theorem topi_stringslite_Index (K : PureK) (s0 : ByteArray) (substr1 : ByteArray) : topK X K 0 f_i_stringslite_Index [(.v (.string s0)), (.v (.string substr1))] = Ri_stringslite_Index K s0 substr1 := by kernel_rfl
theorem pci_stringslite_Index {K : PureK} (hK : KOk X K) {s0 : ByteArray} {substr1 : ByteArray} {v : AV} (h : Ri_stringslite_Index K s0 substr1 = some v) : PureCall X f_i_stringslite_Index [(.v (.string s0)), (.v (.string substr1))] v := by
  have hSo0 := soundX
  exact tell_top (X := X) (Y := X) rfl rfl hSo0 hK ((topi_stringslite_Index K s0 substr1).trans h)

/-! 85: internal/stringslite.IndexByte -/
noncomputable def Ri_stringslite_IndexByte (K : PureK) (s0 : ByteArray) (c1 : Int) : Option AV :=
  optK (K f_i_bytealg_IndexByteString [sv s0, uv c1]) fun wv1 =>
    Ab.asInt wv1 .i64 fun wn2 =>
    some (iv wn2)
theorem topi_stringslite_IndexByte (K : PureK) (s0 : ByteArray) (c1 : Int) : topK X K 0 f_i_stringslite_IndexByte [(.v (.string s0)), (.v (.int .u8 c1))] = Ri_stringslite_IndexByte K s0 c1 := by kernel_rfl
theorem pci_stringslite_IndexByte {K : PureK} (hK : KOk X K) {s0 : ByteArray} {c1 : Int} {v : AV} (h : Ri_stringslite_IndexByte K s0 c1 = some v) : PureCall X f_i_stringslite_IndexByte [(.v (.string s0)), (.v (.int .u8 c1))] v := by
  have hSo0 := soundX
  exact tell_top (X := X) (Y := X) rfl rfl hSo0 hK ((topi_stringslite_IndexByte K s0 c1).trans h)

/-! 22: strings.TrimPrefix -/
noncomputable def Rstrings_TrimPrefix (K : PureK) (s0 : ByteArray) (prefix1 : ByteArray) : Option AV :=
  optK (K f_i_stringslite_TrimPrefix [sv s0, sv prefix1]) fun wv1 =>
    Ab.asStr wv1 fun ws2 =>
    some (sv ws2)
theorem topstrings_TrimPrefix (K : PureK) (s0 : ByteArray) (prefix1 : ByteArray) : topK X K 0 f_strings_TrimPrefix [(.v (.string s0)), (.v (.string prefix1))] = Rstrings_TrimPrefix K s0 prefix1 := by kernel_rfl
theorem pcstrings_TrimPrefix {K : PureK} (hK : KOk X K) {s0 : ByteArray} {prefix1 : ByteArray} {v : AV} (h : Rstrings_TrimPrefix K s0 prefix1 = some v) : PureCall X f_strings_TrimPrefix [(.v (.string s0)), (.v (.string prefix1))] v := by
  have hSo0 := soundX
  exact tell_top (X := X) (Y := X) rfl rfl hSo0 hK ((topstrings_TrimPrefix K s0 prefix1).trans h)

/-! 48: internal/stringslite.TrimPrefix -/
noncomputable def Ri_stringslite_TrimPrefix (K : PureK) (s0 : ByteArray) (prefix1 : ByteArray) : Option AV :=
  optK (K f_i_stringslite_HasPrefix [sv s0, sv prefix1]) fun wv1 =>
    Ab.asBool wv1 fun wb2 =>
    br wb2
      (br (decide (((prefix1.size : Nat) : Int) ≤ ((s0.size : Nat) : Int)))
        (some (sv (cutStr s0 (some (((prefix1.size : Nat) : Int))) none)))
        (none))
      (some (sv s0))
theorem topi_stringslite_TrimPrefix (K : PureK) (s0 : ByteArray) (prefix1 : ByteArray) : topK X K 0 f_i_stringslite_TrimPrefix [(.v (.string s0)), (.v (.string prefix1))] = Ri_stringslite_TrimPrefix K s0 prefix1 := by kernel_rfl
theorem pci_stringslite_TrimPrefix {K : PureK} (hK : KOk X K) {s0 : ByteArray} {prefix1 : ByteArray} {v : AV} (h : Ri_stringslite_TrimPrefix K s0 prefix1 = some v) : PureCall X f_i_stringslite_TrimPrefix [(.v (.string s0)), (.v (.string prefix1))] v := by
  have hSo0 := soundX
  exact tell_top (X := X) (Y := X) rfl rfl hSo0 hK ((topi_stringslite_TrimPrefix K s0 prefix1).trans h)

/-! 53: internal/stringslite.HasPrefix -/
noncomputable def Ri_stringslite_HasPrefix (K : PureK) (s0 : ByteArray) (prefix1 : ByteArray) : Option AV :=
  optK (br (decide (((s0.size : Nat) : Int) ≥ ((prefix1.size : Nat) : Int)))
        (br (decide (((prefix1.size : Nat) : Int) ≤ ((s0.size : Nat) : Int)))
          (some (bv (strEq (cutStr s0 none (some (((prefix1.size : Nat) : Int)))) prefix1)))
          (none))
        (some (bv false))) fun wv1 =>
    Ab.asBool wv1 fun wb2 =>
    some (bv wb2)
theorem topi_stringslite_HasPrefix (K : PureK) (s0 : ByteArray) (prefix1 : ByteArray) : topK X K 0 f_i_stringslite_HasPrefix [(.v (.string s0)), (.v (.string prefix1))] = Ri_stringslite_HasPrefix K s0 prefix1 := by kernel_rfl
theorem pci_stringslite_HasPrefix {K : PureK} (hK : KOk X K) {s0 : ByteArray} {prefix1 : ByteArray} {v : AV} (h : Ri_stringslite_HasPrefix K s0 prefix1 = some v) : PureCall X f_i_stringslite_HasPrefix [(.v (.string s0)), (.v (.string prefix1))] v := by
  have hSo0 := soundX
  exact tell_top (X := X) (Y := X) rfl rfl hSo0 hK ((topi_stringslite_HasPrefix K s0 prefix1).trans h)

/-! 52: strings.Trim -/
inductive Sstrings_Trim_strings_trimRightASCII_0 where
  | s0 (s0 : ByteArray) (obj0_0 : List AV)

inductive Ostrings_Trim_strings_trimRightASCII_0 where
  | x0 (s0 : ByteArray) (obj0_0 : List AV)

def Ostrings_Trim_strings_trimRightASCII_0.k {β : Type} (o : Ostrings_Trim_strings_trimRightASCII_0) (c0 : ByteArray → (List AV) → Option β) : Option β := match o with
  | .x0 s0 obj0_0 => c0 s0 obj0_0

def Estrings_Trim_strings_trimRightASCII_0 : Sstrings_Trim_strings_trimRightASCII_0 → Env
  | .s0 s0 obj0_0 => [(.v (.string s0)), (.ptr 0 0 0 0), .dead, .dead, .dead, .dead, .dead, .dead, .dead, .dead, .dead, .dead, .dead, .dead, .dead, .dead, .dead, .dead, .dead, .dead, .dead, .dead]

def Hstrings_Trim_strings_trimRightASCII_0 : Sstrings_Trim_strings_trimRightASCII_0 → Heap
  | .s0 s0 obj0_0 => [⟨[(.agg obj0_0)], 0, 0, true, true, 79, 256, none⟩]

def Tstrings_Trim_strings_trimRightASCII_0 {β : Type} (k : Ex → Env → Heap → Option β) (o : Ostrings_Trim_strings_trimRightASCII_0) : Option β := Ostrings_Trim_strings_trimRightASCII_0.k o (fun s0 obj0_0 => k (.exit 0) [(.v (.string s0)), .dead, .dead, .dead, .dead, .dead, .dead, .dead, .dead, .dead, .dead, .dead, .dead, .dead, .dead, .dead, .dead, .dead, .dead, .dead, .dead, .dead] [⟨[(.agg obj0_0)], 0, 0, true, true, 79, 256, none⟩])

def Fstrings_Trim_strings_trimRightASCII_0 (lstrings_Trim_strings_trimRightASCII_0 : Sstrings_Trim_strings_trimRightASCII_0 → Option Ostrings_Trim_strings_trimRightASCII_0) : LoopF := ⟨fun e h k => match Nat.beq e.length 22 with
  | true => (match e.getD 0 .dead, e.getD 1 .dead, h with
    | (.v (.string s0)), (.ptr 0 0 0 0), [⟨[(.agg obj0_0)], 0, 0, true, true, 79, 256, none⟩] => optK (lstrings_Trim_strings_trimRightASCII_0 (.s0 s0 obj0_0)) (Tstrings_Trim_strings_trimRightASCII_0 k)
    | _, _, _ => none)
  | false => none⟩

def clstrings_Trim_strings_trimRightASCII_0 : List Tmp := [2, 3, 4, 5, 6, 7, 8, 9, 10, 11, 12, 13, 14, 15, 16, 17, 18, 19, 20, 21]
def clostrings_Trim_strings_trimRightASCII_0 : List Tmp := [1, 2, 3, 4, 5, 6, 7, 8, 9, 10, 11, 12, 13, 14, 15, 16, 17, 18, 19, 20, 21]

noncomputable def Rstrings_Trim_strings_trimRightASCII_0 {β : Type} (K : PureK) (d : Ostrings_Trim_strings_trimRightASCII_0 → Option β) (r : Sstrings_Trim_strings_trimRightASCII_0 → Option β) : Sstrings_Trim_strings_trimRightASCII_0 → Option β
  | .s0 s0 obj0_0 =>
    br (decide (((s0.size : Nat) : Int) > 0))
      (br (decide (0 ≤ w64 (((s0.size : Nat) : Int) - 1)))
        (br (decide (w64 (((s0.size : Nat) : Int) - 1) < ((s0.size : Nat) : Int)))
          (br (decide (bt s0 (w64 (((s0.size : Nat) : Int) - 1)).toNat < 256))
            (optK (obj0_0[0 + (bt s0 (w64 (((s0.size : Nat) : Int) - 1)).toNat).toNat * 1]?) fun wv1 =>
            Ab.asBool wv1 fun wb2 =>
            br (!wb2)
              (d (.x0 s0 obj0_0))
              (br (decide (0 ≤ w64 (((s0.size : Nat) : Int) - 1)))
                (br (decide (w64 (((s0.size : Nat) : Int) - 1) ≤ ((s0.size : Nat) : Int)))
                  (r (.s0 (cutStr s0 none (some (w64 (((s0.size : Nat) : Int) - 1)))) obj0_0))
                  (none))
                (none)))
            (none))
          (none))
        (none))
      (d (.x0 s0 obj0_0))
theorem roundstrings_Trim_strings_trimRightASCII_0 (K : PureK) {β : Type} (r : Env → Heap → Option β) (k : Ex → Env → Heap → Option β) (s : Sstrings_Trim_strings_trimRightASCII_0) : tellOne X K 0 71 0 [(1, 1, 0), (2, 1, 0), (3, 1, 0)] 1 clstrings_Trim_strings_trimRightASCII_0 clostrings_Trim_strings_trimRightASCII_0 r k (Estrings_Trim_strings_trimRightASCII_0 s) (Hstrings_Trim_strings_trimRightASCII_0 s) = Rstrings_Trim_strings_trimRightASCII_0 K (Tstrings_Trim_strings_trimRightASCII_0 k) (fun s => r (Estrings_Trim_strings_trimRightASCII_0 s) (Hstrings_Trim_strings_trimRightASCII_0 s)) s := by
  cases s <;> kernel_rfl
theorem Ostrings_Trim_strings_trimRightASCII_0.bind_k {β γ : Type} (o : Ostrings_Trim_strings_trimRightASCII_0) (c0 : ByteArray → (List AV) → Option β) (φ : β → Option γ) : (Ostrings_Trim_strings_trimRightASCII_0.k o c0).bind φ = Ostrings_Trim_strings_trimRightASCII_0.k o (fun s0 obj0_0 => (c0 s0 obj0_0).bind φ) := by cases o <;> rfl
theorem natstrings_Trim_strings_trimRightASCII_0 (K : PureK) {β γ : Type} (φ : β → Option γ) (d : Ostrings_Trim_strings_trimRightASCII_0 → Option β) (r : Sstrings_Trim_strings_trimRightASCII_0 → Option β) (s : Sstrings_Trim_strings_trimRightASCII_0) : Rstrings_Trim_strings_trimRightASCII_0 K (fun o => (d o).bind φ) (fun s => (r s).bind φ) s = (Rstrings_Trim_strings_trimRightASCII_0 K d r s).bind φ := by
  cases s <;> simp only [Rstrings_Trim_strings_trimRightASCII_0, bind_optK, bind_br, bind_asInt, bind_asBool, bind_asStr, bind_asLst, bind_asAgg, bind_asTup, bind_asBig, bind_asErr, bind_none]
theorem outstrings_Trim_strings_trimRightASCII_0 (o : Ostrings_Trim_strings_trimRightASCII_0) : ∃ x e' h', ∀ {β : Type} (k : Ex → Env → Heap → Option β), Tstrings_Trim_strings_trimRightASCII_0 k o = k x e' h' := by cases o <;> exact ⟨_, _, _, fun _ => rfl⟩
theorem okstrings_Trim_strings_trimRightASCII_0 {K : PureK} (hX : Sound X) (hK : KOk X K) {lstrings_Trim_strings_trimRightASCII_0 : Sstrings_Trim_strings_trimRightASCII_0 → Option Ostrings_Trim_strings_trimRightASCII_0} (hl : ∀ s o, lstrings_Trim_strings_trimRightASCII_0 s = some o → ∃ m, fuelRec (Rstrings_Trim_strings_trimRightASCII_0 K some) m s = some o) (β : Type) (e : Env) (h : Heap) (k : Ex → Env → Heap → Option β) (r : β) (hr : (Fstrings_Trim_strings_trimRightASCII_0 lstrings_Trim_strings_trimRightASCII_0).run e h k = some r) : ∃ x e' h', k x e' h' = some r ∧ CodeAt X (.loop (loopBody (X).P 71 0)) e h x e' h' := by
  obtain ⟨fn, c, hin⟩ := loopIn_of (X := X) (f := 71) (i := 0) (key := 1) (by kernel_rfl)
  simp only [Fstrings_Trim_strings_trimRightASCII_0] at hr
  split at hr
  · rename_i hlen
    have hlen := Nat.eq_of_beq_eq_true hlen
    split at hr
    · rename_i q0 q1
      obtain ⟨o, ho, hr⟩ := optK_some hr
      refine tell_ok hX (KOk.congr (X := X) (Y := X) rfl rfl hK) hin (E := Estrings_Trim_strings_trimRightASCII_0) (H := Hstrings_Trim_strings_trimRightASCII_0) (R := fun d r => Rstrings_Trim_strings_trimRightASCII_0 K d r) (T := Tstrings_Trim_strings_trimRightASCII_0) (ts := [(1, 1, 0), (2, 1, 0), (3, 1, 0)]) (len := 1) (cl := clstrings_Trim_strings_trimRightASCII_0) (clo := clostrings_Trim_strings_trimRightASCII_0) (roundstrings_Trim_strings_trimRightASCII_0 K) (natstrings_Trim_strings_trimRightASCII_0 K) outstrings_Trim_strings_trimRightASCII_0 (hl _ _ ho) (cl0 := clstrings_Trim_strings_trimRightASCII_0) (ts0 := []) ?_ rfl (by kernel_rfl) (by kernel_rfl) hr
      rw [clear_lit e 22 hlen, show clearEnv clstrings_Trim_strings_trimRightASCII_0 ((List.range 22).map fun i => e.getD i .dead) = [e.getD 0 .dead, e.getD 1 .dead, .dead, .dead, .dead, .dead, .dead, .dead, .dead, .dead, .dead, .dead, .dead, .dead, .dead, .dead, .dead, .dead, .dead, .dead, .dead, .dead] from by kernel_rfl]; rw [q0, q1]
      kernel_rfl
    · cases hr
  · cases hr
inductive Sstrings_Trim_strings_trimLeftASCII_0 where
  | s0 (s0 : ByteArray) (obj0_0 : List AV)

inductive Ostrings_Trim_strings_trimLeftASCII_0 where
  | x0 (s0 : ByteArray) (obj0_0 : List AV)

def Ostrings_Trim_strings_trimLeftASCII_0.k {β : Type} (o : Ostrings_Trim_strings_trimLeftASCII_0) (c0 : ByteArray → (List AV) → Option β) : Option β := match o with
  | .x0 s0 obj0_0 => c0 s0 obj0_0

def Estrings_Trim_strings_trimLeftASCII_0 : Sstrings_Trim_strings_trimLeftASCII_0 → Env
  | .s0 s0 obj0_0 => [(.v (.string s0)), (.ptr 0 0 0 0), .dead, .dead, .dead, .dead, .dead, .dead, .dead, .dead, .dead, .dead, .dead, .dead, .dead, .dead]

def Hstrings_Trim_strings_trimLeftASCII_0 : Sstrings_Trim_strings_trimLeftASCII_0 → Heap
  | .s0 s0 obj0_0 => [⟨[(.agg obj0_0)], 0, 0, true, true, 79, 256, none⟩]

def Tstrings_Trim_strings_trimLeftASCII_0 {β : Type} (k : Ex → Env → Heap → Option β) (o : Ostrings_Trim_strings_trimLeftASCII_0) : Option β := Ostrings_Trim_strings_trimLeftASCII_0.k o (fun s0 obj0_0 => k (.exit 0) [(.v (.string s0)), .dead, .dead, .dead, .dead, .dead, .dead, .dead, .dead, .dead, .dead, .dead, .dead, .dead, .dead, .dead] [⟨[(.agg obj0_0)], 0, 0, true, true, 79, 256, none⟩])

def Fstrings_Trim_strings_trimLeftASCII_0 (lstrings_Trim_strings_trimLeftASCII_0 : Sstrings_Trim_strings_trimLeftASCII_0 → Option Ostrings_Trim_strings_trimLeftASCII_0) : LoopF := ⟨fun e h k => match Nat.beq e.length 16 with
  | true => (match e.getD 0 .dead, e.getD 1 .dead, h with
    | (.v (.string s0)), (.ptr 0 0 0 0), [⟨[(.agg obj0_0)], 0, 0, true, true, 79, 256, none⟩] => optK (lstrings_Trim_strings_trimLeftASCII_0 (.s0 s0 obj0_0)) (Tstrings_Trim_strings_trimLeftASCII_0 k)
    | _, _, _ => none)
  | false => none⟩

def clstrings_Trim_strings_trimLeftASCII_0 : List Tmp := [2, 3, 4, 5, 6, 7, 8, 9, 10, 11, 12, 13, 14, 15]
def clostrings_Trim_strings_trimLeftASCII_0 : List Tmp := [1, 2, 3, 4, 5, 6, 7, 8, 9, 10, 11, 12, 13, 14, 15]

noncomputable def Rstrings_Trim_strings_trimLeftASCII_0 {β : Type} (K : PureK) (d : Ostrings_Trim_strings_trimLeftASCII_0 → Option β) (r : Sstrings_Trim_strings_trimLeftASCII_0 → Option β) : Sstrings_Trim_strings_trimLeftASCII_0 → Option β
  | .s0 s0 obj0_0 =>
    br (decide (((s0.size : Nat) : Int) > 0))
      (br (decide (0 < ((s0.size : Nat) : Int)))
        (br (decide (bt s0 0 < 256))
          (optK (obj0_0[0 + (bt s0 0).toNat * 1]?) fun wv1 =>
          Ab.asBool wv1 fun wb2 =>
          br (!wb2)
            (d (.x0 s0 obj0_0))
            (br (decide (1 ≤ ((s0.size : Nat) : Int)))
              (r (.s0 (cutStr s0 (some 1) none) obj0_0))
              (none)))
          (none))
        (none))
      (d (.x0 s0 obj0_0))
theorem roundstrings_Trim_strings_trimLeftASCII_0 (K : PureK) (lstrings_Trim_strings_trimRightASCII_0 : Sstrings_Trim_strings_trimRightASCII_0 → Option Ostrings_Trim_strings_trimRightASCII_0) {β : Type} (r : Env → Heap → Option β) (k : Ex → Env → Heap → Option β) (s : Sstrings_Trim_strings_trimLeftASCII_0) : tellOne (addLp X 71 1 (Fstrings_Trim_strings_trimRightASCII_0 lstrings_Trim_strings_trimRightASCII_0)) K 0 70 0 [(1, 1, 0), (2, 1, 0), (3, 1, 0)] 1 clstrings_Trim_strings_trimLeftASCII_0 clostrings_Trim_strings_trimLeftASCII_0 r k (Estrings_Trim_strings_trimLeftASCII_0 s) (Hstrings_Trim_strings_trimLeftASCII_0 s) = Rstrings_Trim_strings_trimLeftASCII_0 K (Tstrings_Trim_strings_trimLeftASCII_0 k) (fun s => r (Estrings_Trim_strings_trimLeftASCII_0 s) (Hstrings_Trim_strings_trimLeftASCII_0 s)) s := by
  cases s <;> kernel_rfl
theorem Ostrings_Trim_strings_trimLeftASCII_0.bind_k {β γ : Type} (o : Ostrings_Trim_strings_trimLeftASCII_0) (c0 : ByteArray → (List AV) → Option β) (φ : β → Option γ) : (Ostrings_Trim_strings_trimLeftASCII_0.k o c0).bind φ = Ostrings_Trim_strings_trimLeftASCII_0.k o (fun s0 obj0_0 => (c0 s0 obj0_0).bind φ) := by cases o <;> rfl
theorem natstrings_Trim_strings_trimLeftASCII_0 (K : PureK) {β γ : Type} (φ : β → Option γ) (d : Ostrings_Trim_strings_trimLeftASCII_0 → Option β) (r : Sstrings_Trim_strings_trimLeftASCII_0 → Option β) (s : Sstrings_Trim_strings_trimLeftASCII_0) : Rstrings_Trim_strings_trimLeftASCII_0 K (fun o => (d o).bind φ) (fun s => (r s).bind φ) s = (Rstrings_Trim_strings_trimLeftASCII_0 K d r s).bind φ := by
  cases s <;> simp only [Rstrings_Trim_strings_trimLeftASCII_0, bind_optK, bind_br, bind_asInt, bind_asBool, bind_asStr, bind_asLst, bind_asAgg, bind_asTup, bind_asBig, bind_asErr, bind_none]
theorem outstrings_Trim_strings_trimLeftASCII_0 (o : Ostrings_Trim_strings_trimLeftASCII_0) : ∃ x e' h', ∀ {β : Type} (k : Ex → Env → Heap → Option β), Tstrings_Trim_strings_trimLeftASCII_0 k o = k x e' h' := by cases o <;> exact ⟨_, _, _, fun _ => rfl⟩
theorem okstrings_Trim_strings_trimLeftASCII_0 {K : PureK} (lstrings_Trim_strings_trimRightASCII_0 : Sstrings_Trim_strings_trimRightASCII_0 → Option Ostrings_Trim_strings_trimRightASCII_0) (hX : Sound (addLp X 71 1 (Fstrings_Trim_strings_trimRightASCII_0 lstrings_Trim_strings_trimRightASCII_0))) (hK : KOk X K) {lstrings_Trim_strings_trimLeftASCII_0 : Sstrings_Trim_strings_trimLeftASCII_0 → Option Ostrings_Trim_strings_trimLeftASCII_0} (hl : ∀ s o, lstrings_Trim_strings_trimLeftASCII_0 s = some o → ∃ m, fuelRec (Rstrings_Trim_strings_trimLeftASCII_0 K some) m s = some o) (β : Type) (e : Env) (h : Heap) (k : Ex → Env → Heap → Option β) (r : β) (hr : (Fstrings_Trim_strings_trimLeftASCII_0 lstrings_Trim_strings_trimLeftASCII_0).run e h k = some r) : ∃ x e' h', k x e' h' = some r ∧ CodeAt (addLp X 71 1 (Fstrings_Trim_strings_trimRightASCII_0 lstrings_Trim_strings_trimRightASCII_0)) (.loop (loopBody ((addLp X 71 1 (Fstrings_Trim_strings_trimRightASCII_0 lstrings_Trim_strings_trimRightASCII_0))).P 70 0)) e h x e' h' := by
  obtain ⟨fn, c, hin⟩ := loopIn_of (X := (addLp X 71 1 (Fstrings_Trim_strings_trimRightASCII_0 lstrings_Trim_strings_trimRightASCII_0))) (f := 70) (i := 0) (key := 1) (by kernel_rfl)
  simp only [Fstrings_Trim_strings_trimLeftASCII_0] at hr
  split at hr
  · rename_i hlen
    have hlen := Nat.eq_of_beq_eq_true hlen
    split at hr
    · rename_i q0 q1
      obtain ⟨o, ho, hr⟩ := optK_some hr
      refine tell_ok hX (KOk.congr (X := X) (Y := (addLp X 71 1 (Fstrings_Trim_strings_trimRightASCII_0 lstrings_Trim_strings_trimRightASCII_0))) rfl rfl hK) hin (E := Estrings_Trim_strings_trimLeftASCII_0) (H := Hstrings_Trim_strings_trimLeftASCII_0) (R := fun d r => Rstrings_Trim_strings_trimLeftASCII_0 K d r) (T := Tstrings_Trim_strings_trimLeftASCII_0) (ts := [(1, 1, 0), (2, 1, 0), (3, 1, 0)]) (len := 1) (cl := clstrings_Trim_strings_trimLeftASCII_0) (clo := clostrings_Trim_strings_trimLeftASCII_0) (roundstrings_Trim_strings_trimLeftASCII_0 K lstrings_Trim_strings_trimRightASCII_0) (natstrings_Trim_strings_trimLeftASCII_0 K) outstrings_Trim_strings_trimLeftASCII_0 (hl _ _ ho) (cl0 := clstrings_Trim_strings_trimLeftASCII_0) (ts0 := []) ?_ rfl (by kernel_rfl) (by kernel_rfl) hr
      rw [clear_lit e 16 hlen, show clearEnv clstrings_Trim_strings_trimLeftASCII_0 ((List.range 16).map fun i => e.getD i .dead) = [e.getD 0 .dead, e.getD 1 .dead, .dead, .dead, .dead, .dead, .dead, .dead, .dead, .dead, .dead, .dead, .dead, .dead, .dead, .dead] from by kernel_rfl]; rw [q0, q1]
      kernel_rfl
    · cases hr
  · cases hr
noncomputable def Rstrings_Trim (K : PureK) (lstrings_Trim_strings_trimRightASCII_0 : Sstrings_Trim_strings_trimRightASCII_0 → Option Ostrings_Trim_strings_trimRightASCII_0) (lstrings_Trim_strings_trimLeftASCII_0 : Sstrings_Trim_strings_trimLeftASCII_0 → Option Ostrings_Trim_strings_trimLeftASCII_0) (s0 : ByteArray) (cutset1 : ByteArray) : Option AV :=
  optK (br (strEq s0 ({ data := #[] } : ByteArray))
        (some (bv true))
        (some (bv (strEq cutset1 ({ data := #[] } : ByteArray))))) fun wv27 =>
    Ab.asBool wv27 fun wb28 =>
    br wb28
      (some (sv s0))
      (optK (br (((cutset1.size : Nat) : Int) == 1)
          (br (decide (0 < ((cutset1.size : Nat) : Int)))
            (some (bv (decide (bt cutset1 0 < 128))))
            (none))
          (some (bv false))) fun wv29 =>
      Ab.asBool wv29 fun wb30 =>
      br wb30
        (br (decide (0 < ((cutset1.size : Nat) : Int)))
          (optK (K f_strings_trimRightByte [sv s0, uv (bt cutset1 0)]) fun wv31 =>
          Ab.asStr wv31 fun ws32 =>
          br (decide (0 < ((cutset1.size : Nat) : Int)))
            (optK (K f_strings_trimLeftByte [sv ws32, uv (bt cutset1 0)]) fun wv33 =>
            Ab.asStr wv33 fun ws34 =>
            some (sv ws34))
            (none))
          (none))
        (optK (K f_strings_makeASCIISet [sv cutset1]) fun wv35 =>
        Ab.asTup wv35 2 fun wg36 =>
        Ab.asBig (wg36 0) 256 fun wc37 =>
        Ab.asBool (wg36 1) fun wb38 =>
        br (refFree (AV.tup [AV.agg wc37, bv wb38]))
          (br (fits Tryz.prog 79 (AV.agg wc37) && (true || refFree (AV.agg wc37)))
            (br wb38
              (optK (lstrings_Trim_strings_trimRightASCII_0 (Sstrings_Trim_strings_trimRightASCII_0.s0 s0 wc37)) fun wo39 => Ostrings_Trim_strings_trimRightASCII_0.k wo39 (fun (s0_40 : ByteArray) (obj0_0_40 : List AV) =>
              optK (lstrings_Trim_strings_trimLeftASCII_0 (Sstrings_Trim_strings_trimLeftASCII_0.s0 s0_40 obj0_0_40)) fun wo41 => Ostrings_Trim_strings_trimLeftASCII_0.k wo41 (fun (s0_42 : ByteArray) (obj0_0_42 : List AV) =>
              some (sv s0_42))))
              (optK (K f_strings_trimRightUnicode [sv s0, sv cutset1]) fun wv43 =>
              Ab.asStr wv43 fun ws44 =>
              optK (K f_strings_trimLeftUnicode [sv ws44, sv cutset1]) fun wv45 =>
              Ab.asStr wv45 fun ws46 =>
              some (sv ws46)))
            (none))
          (none)))
theorem topstrings_Trim (K : PureK) (lstrings_Trim_strings_trimRightASCII_0 : Sstrings_Trim_strings_trimRightASCII_0 → Option Ostrings_Trim_strings_trimRightASCII_0) (lstrings_Trim_strings_trimLeftASCII_0 : Sstrings_Trim_strings_trimLeftASCII_0 → Option Ostrings_Trim_strings_trimLeftASCII_0) (s0 : ByteArray) (cutset1 : ByteArray) : topK (addLp (addLp X 71 1 (Fstrings_Trim_strings_trimRightASCII_0 lstrings_Trim_strings_trimRightASCII_0)) 70 1 (Fstrings_Trim_strings_trimLeftASCII_0 lstrings_Trim_strings_trimLeftASCII_0)) K 0 f_strings_Trim [(.v (.string s0)), (.v (.string cutset1))] = Rstrings_Trim K lstrings_Trim_strings_trimRightASCII_0 lstrings_Trim_strings_trimLeftASCII_0 s0 cutset1 := by kernel_rfl
theorem pcstrings_Trim {K : PureK} (hK : KOk X K) {lstrings_Trim_strings_trimRightASCII_0 : Sstrings_Trim_strings_trimRightASCII_0 → Option Ostrings_Trim_strings_trimRightASCII_0} {lstrings_Trim_strings_trimLeftASCII_0 : Sstrings_Trim_strings_trimLeftASCII_0 → Option Ostrings_Trim_strings_trimLeftASCII_0} (hstrings_Trim_strings_trimRightASCII_0 : ∀ s o, lstrings_Trim_strings_trimRightASCII_0 s = some o → ∃ m, fuelRec (Rstrings_Trim_strings_trimRightASCII_0 K some) m s = some o) (hstrings_Trim_strings_trimLeftASCII_0 : ∀ s o, lstrings_Trim_strings_trimLeftASCII_0 s = some o → ∃ m, fuelRec (Rstrings_Trim_strings_trimLeftASCII_0 K some) m s = some o) {s0 : ByteArray} {cutset1 : ByteArray} {v : AV} (h : Rstrings_Trim K lstrings_Trim_strings_trimRightASCII_0 lstrings_Trim_strings_trimLeftASCII_0 s0 cutset1 = some v) : PureCall X f_strings_Trim [(.v (.string s0)), (.v (.string cutset1))] v := by
  have hSo0 := soundX
  obtain ⟨_, _, hin0⟩ := loopIn_of (X := X) (f := 71) (i := 0) (key := 1) (by kernel_rfl)
  have hSo1 := sound_add hSo0 hin0 (okstrings_Trim_strings_trimRightASCII_0 hSo0 hK hstrings_Trim_strings_trimRightASCII_0)
  obtain ⟨_, _, hin1⟩ := loopIn_of (X := (addLp X 71 1 (Fstrings_Trim_strings_trimRightASCII_0 lstrings_Trim_strings_trimRightASCII_0))) (f := 70) (i := 0) (key := 1) (by kernel_rfl)
  have hSo2 := sound_add hSo1 hin1 (okstrings_Trim_strings_trimLeftASCII_0 lstrings_Trim_strings_trimRightASCII_0 hSo1 hK hstrings_Trim_strings_trimLeftASCII_0)
  exact tell_top (X := X) (Y := (addLp (addLp X 71 1 (Fstrings_Trim_strings_trimRightASCII_0 lstrings_Trim_strings_trimRightASCII_0)) 70 1 (Fstrings_Trim_strings_trimLeftASCII_0 lstrings_Trim_strings_trimLeftASCII_0))) rfl rfl hSo2 hK ((topstrings_Trim K lstrings_Trim_strings_trimRightASCII_0 lstrings_Trim_strings_trimLeftASCII_0 s0 cutset1).trans h)

/-! 77: internal/strconv.Atoi -/
inductive Si_strconv_Atoi_0 where
  | s0 (s05 : ByteArray) (n6 : Int) (t47 : List AV) (t48 : Int) (t49 : Int)

inductive Oi_strconv_Atoi_0 where
  | x0 (t2 : Int) (t3i : Int) (s05 : ByteArray) (n6 : Int)
  | x1 (s05 : ByteArray) (n6 : Int)

def Oi_strconv_Atoi_0.k {β : Type} (o : Oi_strconv_Atoi_0) (c0 : Int → Int → ByteArray → Int → Option β) (c1 : ByteArray → Int → Option β) : Option β := match o with
  | .x0 t2 t3i s05 n6 => c0 t2 t3i s05 n6
  | .x1 s05 n6 => c1 s05 n6

def Ei_strconv_Atoi_0 : Si_strconv_Atoi_0 → Env
  | .s0 s05 n6 t47 t48 t49 => [.dead, .dead, .dead, .dead, .dead, (.v (.string s05)), (.v (.int .i64 n6)), .dead, .dead, .dead, .dead, .dead, .dead, .dead, .dead, .dead, .dead, .dead, .dead, .dead, .dead, .dead, .dead, .dead, .dead, .dead, .dead, .dead, .dead, .dead, .dead, .dead, .dead, .dead, .dead, .dead, .dead, .dead, .dead, .dead, .dead, .dead, .dead, .dead, .dead, .dead, .dead, (.lst 1 false t47), (.v (.int .i64 t48)), (.v (.int .i64 t49)), .dead, .dead, .dead, .dead, .dead, .dead, .dead, .dead, .dead, .dead, .dead, .dead, .dead, .dead, .dead, .dead, .dead, .dead, .dead, .dead, .dead, .dead, .dead, .dead, .dead, .dead, .dead]

def Hi_strconv_Atoi_0 : Si_strconv_Atoi_0 → Heap
  | .s0 s05 n6 t47 t48 t49 => []

def Ti_strconv_Atoi_0 {β : Type} (k : Ex → Env → Heap → Option β) (o : Oi_strconv_Atoi_0) : Option β := Oi_strconv_Atoi_0.k o (fun t2 t3i s05 n6 => k .ret [.dead, .dead, (.v (.int .i64 t2)), (.iface 98 (.v (.int .i64 t3i))), .dead, (.v (.string s05)), (.v (.int .i64 n6)), .dead, .dead, .dead, .dead, .dead, .dead, .dead, .dead, .dead, .dead, .dead, .dead, .dead, .dead, .dead, .dead, .dead, .dead, .dead, .dead, .dead, .dead, .dead, .dead, .dead, .dead, .dead, .dead, .dead, .dead, .dead, .dead, .dead, .dead, .dead, .dead, .dead, .dead, .dead, .dead, .dead, .dead, .dead, .dead, .dead, .dead, .dead, .dead, .dead, .dead, .dead, .dead, .dead, .dead, .dead, .dead, .dead, .dead, .dead, .dead, .dead, .dead, .dead, .dead, .dead, .dead, .dead, .dead, .dead, .dead] []) (fun s05 n6 => k (.exit 0) [.dead, .dead, .dead, .dead, .dead, (.v (.string s05)), (.v (.int .i64 n6)), .dead, .dead, .dead, .dead, .dead, .dead, .dead, .dead, .dead, .dead, .dead, .dead, .dead, .dead, .dead, .dead, .dead, .dead, .dead, .dead, .dead, .dead, .dead, .dead, .dead, .dead, .dead, .dead, .dead, .dead, .dead, .dead, .dead, .dead, .dead, .dead, .dead, .dead, .dead, .dead, .dead, .dead, .dead, .dead, .dead, .dead, .dead, .dead, .dead, .dead, .dead, .dead, .dead, .dead, .dead, .dead, .dead, .dead, .dead, .dead, .dead, .dead, .dead, .dead, .dead, .dead, .dead, .dead, .dead, .dead] [])

def Fi_strconv_Atoi_0 (li_strconv_Atoi_0 : Si_strconv_Atoi_0 → Option Oi_strconv_Atoi_0) : LoopF := ⟨fun e h k => match Nat.beq e.length 77 with
  | true => (match e.getD 5 .dead, e.getD 6 .dead, e.getD 47 .dead, e.getD 48 .dead, e.getD 49 .dead, h with
    | (.v (.string s05)), (.v (.int .i64 n6)), (.lst 1 false t47), (.v (.int .i64 t48)), (.v (.int .i64 t49)), [] => optK (li_strconv_Atoi_0 (.s0 s05 n6 t47 t48 t49)) (Ti_strconv_Atoi_0 k)
    | _, _, _, _, _, _ => none)
  | false => none⟩

def cli_strconv_Atoi_0 : List Tmp := [0, 1, 2, 3, 4, 7, 8, 9, 10, 11, 12, 13, 14, 15, 16, 17, 18, 19, 20, 21, 22, 23, 24, 25, 26, 27, 28, 29, 30, 31, 32, 33, 34, 35, 36, 37, 38, 39, 40, 41, 42, 43, 44, 45, 46, 50, 51, 52, 53, 54, 55, 56, 57, 58, 59, 60, 61, 62, 63, 64, 65, 66, 67, 68, 69, 70, 71, 72, 73, 74, 75, 76]
def cloi_strconv_Atoi_0 : List Tmp := [0, 1, 4, 7, 8, 9, 10, 11, 12, 13, 14, 15, 16, 17, 18, 19, 20, 21, 22, 23, 24, 25, 26, 27, 28, 29, 30, 31, 32, 33, 34, 35, 36, 37, 38, 39, 40, 41, 42, 43, 44, 45, 46, 47, 48, 49, 50, 51, 52, 53, 54, 55, 56, 57, 58, 59, 60, 61, 62, 63, 64, 65, 66, 67, 68, 69, 70, 71, 72, 73, 74, 75, 76]

noncomputable def Ri_strconv_Atoi_0 {β : Type} (K : PureK) (d : Oi_strconv_Atoi_0 → Option β) (r : Si_strconv_Atoi_0 → Option β) : Si_strconv_Atoi_0 → Option β
  | .s0 s05 n6 t47 t48 t49 =>
    br (decide (t49 < t48))
      (br (decide (0 ≤ t49))
        (br (decide (t49 < ((t47.length : Nat) : Int)))
          (optK t47[t49.toNat]? fun wv1 =>
          Ab.asInt wv1 .u8 fun wn2 =>
          br (decide (w8 (wn2 - 48) > 9))
            (d (.x0 0 2 s05 n6))
            (r (.s0 s05 (w64 (w64 (n6 * 10) + w64 (w8 (wn2 - 48)))) t47 t48 (w64 (t49 + 1)))))
          (none))
        (none))
      (d (.x1 s05 n6))
theorem roundi_strconv_Atoi_0 (K : PureK) {β : Type} (r : Env → Heap → Option β) (k : Ex → Env → Heap → Option β) (s : Si_strconv_Atoi_0) : tellOne X K 0 77 0 [(0, 1, 0), (1, 1, 0), (2, 1, 0)] 0 cli_strconv_Atoi_0 cloi_strconv_Atoi_0 r k (Ei_strconv_Atoi_0 s) (Hi_strconv_Atoi_0 s) = Ri_strconv_Atoi_0 K (Ti_strconv_Atoi_0 k) (fun s => r (Ei_strconv_Atoi_0 s) (Hi_strconv_Atoi_0 s)) s := by
  cases s <;> kernel_rfl
theorem Oi_strconv_Atoi_0.bind_k {β γ : Type} (o : Oi_strconv_Atoi_0) (c0 : Int → Int → ByteArray → Int → Option β) (c1 : ByteArray → Int → Option β) (φ : β → Option γ) : (Oi_strconv_Atoi_0.k o c0 c1).bind φ = Oi_strconv_Atoi_0.k o (fun t2 t3i s05 n6 => (c0 t2 t3i s05 n6).bind φ) (fun s05 n6 => (c1 s05 n6).bind φ) := by cases o <;> rfl
theorem nati_strconv_Atoi_0 (K : PureK) {β γ : Type} (φ : β → Option γ) (d : Oi_strconv_Atoi_0 → Option β) (r : Si_strconv_Atoi_0 → Option β) (s : Si_strconv_Atoi_0) : Ri_strconv_Atoi_0 K (fun o => (d o).bind φ) (fun s => (r s).bind φ) s = (Ri_strconv_Atoi_0 K d r s).bind φ := by
  cases s <;> simp only [Ri_strconv_Atoi_0, bind_optK, bind_br, bind_asInt, bind_asBool, bind_asStr, bind_asLst, bind_asAgg, bind_asTup, bind_asBig, bind_asErr, bind_none]
theorem outi_strconv_Atoi_0 (o : Oi_strconv_Atoi_0) : ∃ x e' h', ∀ {β : Type} (k : Ex → Env → Heap → Option β), Ti_strconv_Atoi_0 k o = k x e' h' := by cases o <;> exact ⟨_, _, _, fun _ => rfl⟩
theorem oki_strconv_Atoi_0 {K : PureK} (hX : Sound X) (hK : KOk X K) {li_strconv_Atoi_0 : Si_strconv_Atoi_0 → Option Oi_strconv_Atoi_0} (hl : ∀ s o, li_strconv_Atoi_0 s = some o → ∃ m, fuelRec (Ri_strconv_Atoi_0 K some) m s = some o) (β : Type) (e : Env) (h : Heap) (k : Ex → Env → Heap → Option β) (r : β) (hr : (Fi_strconv_Atoi_0 li_strconv_Atoi_0).run e h k = some r) : ∃ x e' h', k x e' h' = some r ∧ CodeAt X (.loop (loopBody (X).P 77 0)) e h x e' h' := by
  obtain ⟨fn, c, hin⟩ := loopIn_of (X := X) (f := 77) (i := 0) (key := 10) (by kernel_rfl)
  simp only [Fi_strconv_Atoi_0] at hr
  split at hr
  · rename_i hlen
    have hlen := Nat.eq_of_beq_eq_true hlen
    split at hr
    · rename_i q5 q6 q47 q48 q49
      obtain ⟨o, ho, hr⟩ := optK_some hr
      refine tell_ok hX (KOk.congr (X := X) (Y := X) rfl rfl hK) hin (E := Ei_strconv_Atoi_0) (H := Hi_strconv_Atoi_0) (R := fun d r => Ri_strconv_Atoi_0 K d r) (T := Ti_strconv_Atoi_0) (ts := [(0, 1, 0), (1, 1, 0), (2, 1, 0)]) (len := 0) (cl := cli_strconv_Atoi_0) (clo := cloi_strconv_Atoi_0) (roundi_strconv_Atoi_0 K) (nati_strconv_Atoi_0 K) outi_strconv_Atoi_0 (hl _ _ ho) (cl0 := cli_strconv_Atoi_0) (ts0 := []) ?_ rfl (by kernel_rfl) (by kernel_rfl) hr
      rw [clear_lit e 77 hlen, show clearEnv cli_strconv_Atoi_0 ((List.range 77).map fun i => e.getD i .dead) = [.dead, .dead, .dead, .dead, .dead, e.getD 5 .dead, e.getD 6 .dead, .dead, .dead, .dead, .dead, .dead, .dead, .dead, .dead, .dead, .dead, .dead, .dead, .dead, .dead, .dead, .dead, .dead, .dead, .dead, .dead, .dead, .dead, .dead, .dead, .dead, .dead, .dead, .dead, .dead, .dead, .dead, .dead, .dead, .dead, .dead, .dead, .dead, .dead, .dead, .dead, e.getD 47 .dead, e.getD 48 .dead, e.getD 49 .dead, .dead, .dead, .dead, .dead, .dead, .dead, .dead, .dead, .dead, .dead, .dead, .dead, .dead, .dead, .dead, .dead, .dead, .dead, .dead, .dead, .dead, .dead, .dead, .dead, .dead, .dead, .dead] from by kernel_rfl]; rw [q5, q6, q47, q48, q49]
      kernel_rfl
    · cases hr
  · cases hr
noncomputable def Ri_strconv_Atoi (K : PureK) (li_strconv_Atoi_0 : Si_strconv_Atoi_0 → Option Oi_strconv_Atoi_0) (s0 : ByteArray) : Option AV :=
  optK (br (decide (0 < ((s0.size : Nat) : Int)))
        (some (bv (decide (((s0.size : Nat) : Int) < 19))))
        (some (bv false))) fun wv5 =>
    Ab.asBool wv5 fun wb6 =>
    br wb6
      (optK (br (decide (0 < ((s0.size : Nat) : Int)))
          (br (bt s0 0 == 45)
            (some (bv true))
            (br (decide (0 < ((s0.size : Nat) : Int)))
              (some (bv (bt s0 0 == 43)))
              (none)))
          (none)) fun wv7 =>
      Ab.asBool wv7 fun wb8 =>
      br wb8
        (br (decide (1 ≤ ((s0.size : Nat) : Int)))
          (br (decide ((((cutStr s0 (some 1) none).size : Nat) : Int) < 1))
            (some (AV.tup [iv 0, AV.iface 98 (iv 2)]))
            (optK (li_strconv_Atoi_0 (Si_strconv_Atoi_0.s0 s0 0 (bytesRows (cutStr s0 (some 1) none)) ((((bytesRows (cutStr s0 (some 1) none)).length : Nat) : Int)) 0)) fun wo9 => Oi_strconv_Atoi_0.k wo9
              (fun (t2_10 : Int) (t3i_10 : Int) (s05_10 : ByteArray) (n6_10 : Int) => some (AV.tup [iv t2_10, AV.iface 98 (iv t3i_10)]))
              (fun (s05_11 : ByteArray) (n6_11 : Int) => br (decide (0 < ((s05_11.size : Nat) : Int)))
                (br (bt s05_11 0 == 45)
                  (some (AV.tup [iv (w64 (0 - n6_11)), AV.v Value.nilIface]))
                  (some (AV.tup [iv n6_11, AV.v Value.nilIface])))
                (none))))
          (none))
        (optK (li_strconv_Atoi_0 (Si_strconv_Atoi_0.s0 s0 0 (bytesRows s0) ((((bytesRows s0).length : Nat) : Int)) 0)) fun wo12 => Oi_strconv_Atoi_0.k wo12
          (fun (t2_13 : Int) (t3i_13 : Int) (s05_13 : ByteArray) (n6_13 : Int) => some (AV.tup [iv t2_13, AV.iface 98 (iv t3i_13)]))
          (fun (s05_14 : ByteArray) (n6_14 : Int) => br (decide (0 < ((s05_14.size : Nat) : Int)))
            (br (bt s05_14 0 == 45)
              (some (AV.tup [iv (w64 (0 - n6_14)), AV.v Value.nilIface]))
              (some (AV.tup [iv n6_14, AV.v Value.nilIface])))
            (none))))
      (optK (K f_i_strconv_ParseInt [sv s0, iv 10, iv 0]) fun wv15 =>
      Ab.asTup wv15 2 fun wg16 =>
      Ab.asInt (wg16 0) .i64 fun wn17 =>
      br (refFree (AV.tup [iv wn17, (wg16 1)]))
        (br (refFree (AV.tup [iv wn17, (wg16 1)]))
          (some (AV.tup [iv wn17, (wg16 1)]))
          (none))
        (none))
theorem topi_strconv_Atoi (K : PureK) (li_strconv_Atoi_0 : Si_strconv_Atoi_0 → Option Oi_strconv_Atoi_0) (s0 : ByteArray) : topK (addLp X 77 10 (Fi_strconv_Atoi_0 li_strconv_Atoi_0)) K 0 f_i_strconv_Atoi [(.v (.string s0))] = Ri_strconv_Atoi K li_strconv_Atoi_0 s0 := by kernel_rfl
theorem pci_strconv_Atoi {K : PureK} (hK : KOk X K) {li_strconv_Atoi_0 : Si_strconv_Atoi_0 → Option Oi_strconv_Atoi_0} (hi_strconv_Atoi_0 : ∀ s o, li_strconv_Atoi_0 s = some o → ∃ m, fuelRec (Ri_strconv_Atoi_0 K some) m s = some o) {s0 : ByteArray} {v : AV} (h : Ri_strconv_Atoi K li_strconv_Atoi_0 s0 = some v) : PureCall X f_i_strconv_Atoi [(.v (.string s0))] v := by
  have hSo0 := soundX
  obtain ⟨_, _, hin0⟩ := loopIn_of (X := X) (f := 77) (i := 0) (key := 10) (by kernel_rfl)
  have hSo1 := sound_add hSo0 hin0 (oki_strconv_Atoi_0 hSo0 hK hi_strconv_Atoi_0)
  exact tell_top (X := X) (Y := (addLp X 77 10 (Fi_strconv_Atoi_0 li_strconv_Atoi_0))) rfl rfl hSo1 hK ((topi_strconv_Atoi K li_strconv_Atoi_0 s0).trans h)

/-! 62: strconv.Atoi -/
noncomputable def Rstrconv_Atoi (K : PureK) (s0 : ByteArray) : Option AV :=
  optK (K f_i_strconv_Atoi [sv s0]) fun wv1 =>
    Ab.asTup wv1 2 fun wg2 =>
    Ab.asInt (wg2 0) .i64 fun wn3 =>
    br (refFree (AV.tup [iv wn3, (wg2 1)]))
      (asErr (wg2 1)
        (some (AV.tup [iv wn3, AV.v Value.nilIface]))
        (fun wt4 wi4 => none))
      (none)
theorem topstrconv_Atoi (K : PureK) (s0 : ByteArray) : topK (withStop X [78]) K 0 f_strconv_Atoi [(.v (.string s0))] = Rstrconv_Atoi K s0 := by kernel_rfl
theorem pcstrconv_Atoi {K : PureK} (hK : KOk X K) {s0 : ByteArray} {v : AV} (h : Rstrconv_Atoi K s0 = some v) : PureCall X f_strconv_Atoi [(.v (.string s0))] v := by
  have hSo0 := (sound_stop soundX [78])
  exact tell_top (X := X) (Y := (withStop X [78])) rfl rfl hSo0 hK ((topstrconv_Atoi K s0).trans h)


/-! 47: strings.EqualFold -/
inductive Sstrings_EqualFold_0 where
  | s0 (s0 : ByteArray) (t1 : ByteArray) (i5 : Int) (n6 : Int)

inductive Ostrings_EqualFold_0 where
  | x0 (s0 : ByteArray) (t1 : ByteArray) (i5 : Int)
  | x1 (s0 : ByteArray) (t1 : ByteArray) (t4 : Bool) (i5 : Int)
  | x2 (s0 : ByteArray) (t1 : ByteArray) (i5 : Int)

def Ostrings_EqualFold_0.k {β : Type} (o : Ostrings_EqualFold_0) (c0 : ByteArray → ByteArray → Int → Option β) (c1 : ByteArray → ByteArray → Bool → Int → Option β) (c2 : ByteArray → ByteArray → Int → Option β) : Option β := match o with
  | .x0 s0 t1 i5 => c0 s0 t1 i5
  | .x1 s0 t1 t4 i5 => c1 s0 t1 t4 i5
  | .x2 s0 t1 i5 => c2 s0 t1 i5

def Estrings_EqualFold_0 : Sstrings_EqualFold_0 → Env
  | .s0 s0 t1 i5 n6 => [(.v (.string s0)), (.v (.string t1)), .dead, .dead, .dead, (.v (.int .i64 i5)), (.v (.int .i64 n6)), .dead, .dead, .dead, .dead, .dead, .dead, .dead, .dead, .dead, .dead, .dead, .dead, .dead, .dead, .dead, .dead, .dead, .dead, .dead, .dead, .dead, .dead, .dead, .dead, .dead, .dead, .dead, .dead, .dead, .dead, .dead, .dead, .dead, .dead, .dead, .dead, .dead, .dead, .dead, .dead, .dead, .dead, .dead, .dead, .dead, .dead, .dead, .dead, .dead, .dead, .dead, .dead, .dead, .dead, .dead, .dead, .dead, .dead, .dead, .dead, .dead, .dead, .dead, .dead, .dead, .dead, .dead, .dead, .dead, .dead, .dead, .dead, .dead, .dead, .dead, .dead, .dead, .dead, .dead, .dead, .dead, .dead, .dead, .dead, .dead, .dead, .dead, .dead, .dead, .dead, .dead, .dead, .dead, .dead, .dead, .dead, .dead, .dead, .dead, .dead, .dead, .dead, .dead, .dead, .dead, .dead, .dead, .dead, .dead, .dead, .dead, .dead, .dead, .dead, .dead, .dead]

def Hstrings_EqualFold_0 : Sstrings_EqualFold_0 → Heap
  | .s0 s0 t1 i5 n6 => []

def Tstrings_EqualFold_0 {β : Type} (k : Ex → Env → Heap → Option β) (o : Ostrings_EqualFold_0) : Option β := Ostrings_EqualFold_0.k o (fun s0 t1 i5 => k (.goto 0) [(.v (.string s0)), (.v (.string t1)), .dead, .dead, .dead, (.v (.int .i64 i5)), .dead, .dead, .dead, .dead, .dead, .dead, .dead, .dead, .dead, .dead, .dead, .dead, .dead, .dead, .dead, .dead, .dead, .dead, .dead, .dead, .dead, .dead, .dead, .dead, .dead, .dead, .dead, .dead, .dead, .dead, .dead, .dead, .dead, .dead, .dead, .dead, .dead, .dead, .dead, .dead, .dead, .dead, .dead, .dead, .dead, .dead, .dead, .dead, .dead, .dead, .dead, .dead, .dead, .dead, .dead, .dead, .dead, .dead, .dead, .dead, .dead, .dead, .dead, .dead, .dead, .dead, .dead, .dead, .dead, .dead, .dead, .dead, .dead, .dead, .dead, .dead, .dead, .dead, .dead, .dead, .dead, .dead, .dead, .dead, .dead, .dead, .dead, .dead, .dead, .dead, .dead, .dead, .dead, .dead, .dead, .dead, .dead, .dead, .dead, .dead, .dead, .dead, .dead, .dead, .dead, .dead, .dead, .dead, .dead, .dead, .dead, .dead, .dead, .dead, .dead, .dead, .dead] []) (fun s0 t1 t4 i5 => k .ret [(.v (.string s0)), (.v (.string t1)), .dead, .dead, (.v (.bool t4)), (.v (.int .i64 i5)), .dead, .dead, .dead, .dead, .dead, .dead, .dead, .dead, .dead, .dead, .dead, .dead, .dead, .dead, .dead, .dead, .dead, .dead, .dead, .dead, .dead, .dead, .dead, .dead, .dead, .dead, .dead, .dead, .dead, .dead, .dead, .dead, .dead, .dead, .dead, .dead, .dead, .dead, .dead, .dead, .dead, .dead, .dead, .dead, .dead, .dead, .dead, .dead, .dead, .dead, .dead, .dead, .dead, .dead, .dead, .dead, .dead, .dead, .dead, .dead, .dead, .dead, .dead, .dead, .dead, .dead, .dead, .dead, .dead, .dead, .dead, .dead, .dead, .dead, .dead, .dead, .dead, .dead, .dead, .dead, .dead, .dead, .dead, .dead, .dead, .dead, .dead, .dead, .dead, .dead, .dead, .dead, .dead, .dead, .dead, .dead, .dead, .dead, .dead, .dead, .dead, .dead, .dead, .dead, .dead, .dead, .dead, .dead, .dead, .dead, .dead, .dead, .dead, .dead, .dead, .dead, .dead] []) (fun s0 t1 i5 => k (.exit 0) [(.v (.string s0)), (.v (.string t1)), .dead, .dead, .dead, (.v (.int .i64 i5)), .dead, .dead, .dead, .dead, .dead, .dead, .dead, .dead, .dead, .dead, .dead, .dead, .dead, .dead, .dead, .dead, .dead, .dead, .dead, .dead, .dead, .dead, .dead, .dead, .dead, .dead, .dead, .dead, .dead, .dead, .dead, .dead, .dead, .dead, .dead, .dead, .dead, .dead, .dead, .dead, .dead, .dead, .dead, .dead, .dead, .dead, .dead, .dead, .dead, .dead, .dead, .dead, .dead, .dead, .dead, .dead, .dead, .dead, .dead, .dead, .dead, .dead, .dead, .dead, .dead, .dead, .dead, .dead, .dead, .dead, .dead, .dead, .dead, .dead, .dead, .dead, .dead, .dead, .dead, .dead, .dead, .dead, .dead, .dead, .dead, .dead, .dead, .dead, .dead, .dead, .dead, .dead, .dead, .dead, .dead, .dead, .dead, .dead, .dead, .dead, .dead, .dead, .dead, .dead, .dead, .dead, .dead, .dead, .dead, .dead, .dead, .dead, .dead, .dead, .dead, .dead, .dead] [])

def Fstrings_EqualFold_0 (lstrings_EqualFold_0 : Sstrings_EqualFold_0 → Option Ostrings_EqualFold_0) : LoopF := ⟨fun e h k => match Nat.beq e.length 123 with
  | true => (match e.getD 0 .dead, e.getD 1 .dead, e.getD 5 .dead, e.getD 6 .dead, h with
    | (.v (.string s0)), (.v (.string t1)), (.v (.int .i64 i5)), (.v (.int .i64 n6)), [] => optK (lstrings_EqualFold_0 (.s0 s0 t1 i5 n6)) (Tstrings_EqualFold_0 k)
    | _, _, _, _, _ => none)
  | false => none⟩

def clstrings_EqualFold_0 : List Tmp := [2, 3, 4, 7, 8, 9, 10, 11, 12, 13, 14, 15, 16, 17, 18, 19, 20, 21, 22, 23, 24, 25, 26, 27, 28, 29, 30, 31, 32, 33, 34, 35, 36, 37, 38, 39, 40, 41, 42, 43, 44, 45, 46, 47, 48, 49, 50, 51, 52, 53, 54, 55, 56, 57, 58, 59, 60, 61, 62, 63, 64, 65, 66, 67, 68, 69, 70, 71, 72, 73, 74, 75, 76, 77, 78, 79, 80, 81, 82, 83, 84, 85, 86, 87, 88, 89, 90, 91, 92, 93, 94, 95, 96, 97, 98, 99, 100, 101, 102, 103, 104, 105, 106, 107, 108, 109, 110, 111, 112, 113, 114, 115, 116, 117, 118, 119, 120, 121, 122]
def clostrings_EqualFold_0 : List Tmp := [2, 3, 6, 7, 8, 9, 10, 11, 12, 13, 14, 15, 16, 17, 18, 19, 20, 21, 22, 23, 24, 25, 26, 27, 28, 29, 30, 31, 32, 33, 34, 35, 36, 37, 38, 39, 40, 41, 42, 43, 44, 45, 46, 47, 48, 49, 50, 51, 52, 53, 54, 55, 56, 57, 58, 59, 60, 61, 62, 63, 64, 65, 66, 67, 68, 69, 70, 71, 72, 73, 74, 75, 76, 77, 78, 79, 80, 81, 82, 83, 84, 85, 86, 87, 88, 89, 90, 91, 92, 93, 94, 95, 96, 97, 98, 99, 100, 101, 102, 103, 104, 105, 106, 107, 108, 109, 110, 111, 112, 113, 114, 115, 116, 117, 118, 119, 120, 121, 122]

noncomputable def Rstrings_EqualFold_0 {β : Type} (K : PureK) (d : Ostrings_EqualFold_0 → Option β) (r : Sstrings_EqualFold_0 → Option β) : Sstrings_EqualFold_0 → Option β
  | .s0 s0 t1 i5 n6 =>
    br (decide (i5 < n6))
      (br (decide (0 ≤ i5))
        (br (decide (i5 < ((s0.size : Nat) : Int)))
          (br (decide (0 ≤ i5))
            (br (decide (i5 < ((t1.size : Nat) : Int)))
              (br (decide (w8 ((((BitVec.ofInt 8 (bt s0 i5.toNat) ||| BitVec.ofInt 8 (bt t1 i5.toNat)).toNat : Nat) : Int)) ≥ 128))
                (d (.x0 s0 t1 i5))
                (br (bt t1 i5.toNat == bt s0 i5.toNat)
                  (r (.s0 s0 t1 (w64 (i5 + 1)) n6))
                  (br (decide (bt t1 i5.toNat < bt s0 i5.toNat))
                    (optK (br (decide (65 ≤ bt t1 i5.toNat))
                        (br (decide (bt t1 i5.toNat ≤ 90))
                          (some (bv (bt s0 i5.toNat == w8 (w8 (bt t1 i5.toNat + 97) - 65))))
                          (some (bv false)))
                        (some (bv false))) fun wv1 =>
                    Ab.asBool wv1 fun wb2 =>
                    br wb2
                      (r (.s0 s0 t1 (w64 (i5 + 1)) n6))
                      (d (.x1 s0 t1 false i5)))
                    (optK (br (decide (65 ≤ bt s0 i5.toNat))
                        (br (decide (bt s0 i5.toNat ≤ 90))
                          (some (bv (bt t1 i5.toNat == w8 (w8 (bt s0 i5.toNat + 97) - 65))))
                          (some (bv false)))
                        (some (bv false))) fun wv3 =>
                    Ab.asBool wv3 fun wb4 =>
                    br wb4
                      (r (.s0 s0 t1 (w64 (i5 + 1)) n6))
                      (d (.x1 s0 t1 false i5))))))
              (none))
            (none))
          (none))
        (none))
      (d (.x2 s0 t1 i5))
theorem roundstrings_EqualFold_0 (K : PureK) {β : Type} (r : Env → Heap → Option β) (k : Ex → Env → Heap → Option β) (s : Sstrings_EqualFold_0) : tellOne X K 0 47 0 [(0, 1, 0), (1, 1, 0), (2, 1, 0)] 0 clstrings_EqualFold_0 clostrings_EqualFold_0 r k (Estrings_EqualFold_0 s) (Hstrings_EqualFold_0 s) = Rstrings_EqualFold_0 K (Tstrings_EqualFold_0 k) (fun s => r (Estrings_EqualFold_0 s) (Hstrings_EqualFold_0 s)) s := by
  cases s <;> kernel_rfl
theorem Ostrings_EqualFold_0.bind_k {β γ : Type} (o : Ostrings_EqualFold_0) (c0 : ByteArray → ByteArray → Int → Option β) (c1 : ByteArray → ByteArray → Bool → Int → Option β) (c2 : ByteArray → ByteArray → Int → Option β) (φ : β → Option γ) : (Ostrings_EqualFold_0.k o c0 c1 c2).bind φ = Ostrings_EqualFold_0.k o (fun s0 t1 i5 => (c0 s0 t1 i5).bind φ) (fun s0 t1 t4 i5 => (c1 s0 t1 t4 i5).bind φ) (fun s0 t1 i5 => (c2 s0 t1 i5).bind φ) := by cases o <;> rfl
theorem natstrings_EqualFold_0 (K : PureK) {β γ : Type} (φ : β → Option γ) (d : Ostrings_EqualFold_0 → Option β) (r : Sstrings_EqualFold_0 → Option β) (s : Sstrings_EqualFold_0) : Rstrings_EqualFold_0 K (fun o => (d o).bind φ) (fun s => (r s).bind φ) s = (Rstrings_EqualFold_0 K d r s).bind φ := by
  cases s <;> simp only [Rstrings_EqualFold_0, bind_optK, bind_br, bind_asInt, bind_asBool, bind_asStr, bind_asLst, bind_asAgg, bind_asTup, bind_asBig, bind_asErr, bind_none]
theorem outstrings_EqualFold_0 (o : Ostrings_EqualFold_0) : ∃ x e' h', ∀ {β : Type} (k : Ex → Env → Heap → Option β), Tstrings_EqualFold_0 k o = k x e' h' := by cases o <;> exact ⟨_, _, _, fun _ => rfl⟩
theorem okstrings_EqualFold_0 {K : PureK} (hX : Sound X) (hK : KOk X K) {lstrings_EqualFold_0 : Sstrings_EqualFold_0 → Option Ostrings_EqualFold_0} (hl : ∀ s o, lstrings_EqualFold_0 s = some o → ∃ m, fuelRec (Rstrings_EqualFold_0 K some) m s = some o) (β : Type) (e : Env) (h : Heap) (k : Ex → Env → Heap → Option β) (r : β) (hr : (Fstrings_EqualFold_0 lstrings_EqualFold_0).run e h k = some r) : ∃ x e' h', k x e' h' = some r ∧ CodeAt X (.loop (loopBody (X).P 47 0)) e h x e' h' := by
  obtain ⟨fn, c, hin⟩ := loopIn_of (X := X) (f := 47) (i := 0) (key := 3) (by kernel_rfl)
  simp only [Fstrings_EqualFold_0] at hr
  split at hr
  · rename_i hlen
    have hlen := Nat.eq_of_beq_eq_true hlen
    split at hr
    · rename_i q0 q1 q5 q6
      obtain ⟨o, ho, hr⟩ := optK_some hr
      refine tell_ok hX (KOk.congr (X := X) (Y := X) rfl rfl hK) hin (E := Estrings_EqualFold_0) (H := Hstrings_EqualFold_0) (R := fun d r => Rstrings_EqualFold_0 K d r) (T := Tstrings_EqualFold_0) (ts := [(0, 1, 0), (1, 1, 0), (2, 1, 0)]) (len := 0) (cl := clstrings_EqualFold_0) (clo := clostrings_EqualFold_0) (roundstrings_EqualFold_0 K) (natstrings_EqualFold_0 K) outstrings_EqualFold_0 (hl _ _ ho) (cl0 := clstrings_EqualFold_0) (ts0 := []) ?_ rfl (by kernel_rfl) (by kernel_rfl) hr
      rw [clear_lit e 123 hlen, show clearEnv clstrings_EqualFold_0 ((List.range 123).map fun i => e.getD i .dead) = [e.getD 0 .dead, e.getD 1 .dead, .dead, .dead, .dead, e.getD 5 .dead, e.getD 6 .dead, .dead, .dead, .dead, .dead, .dead, .dead, .dead, .dead, .dead, .dead, .dead, .dead, .dead, .dead, .dead, .dead, .dead, .dead, .dead, .dead, .dead, .dead, .dead, .dead, .dead, .dead, .dead, .dead, .dead, .dead, .dead, .dead, .dead, .dead, .dead, .dead, .dead, .dead, .dead, .dead, .dead, .dead, .dead, .dead, .dead, .dead, .dead, .dead, .dead, .dead, .dead, .dead, .dead, .dead, .dead, .dead, .dead, .dead, .dead, .dead, .dead, .dead, .dead, .dead, .dead, .dead, .dead, .dead, .dead, .dead, .dead, .dead, .dead, .dead, .dead, .dead, .dead, .dead, .dead, .dead, .dead, .dead, .dead, .dead, .dead, .dead, .dead, .dead, .dead, .dead, .dead, .dead, .dead, .dead, .dead, .dead, .dead, .dead, .dead, .dead, .dead, .dead, .dead, .dead, .dead, .dead, .dead, .dead, .dead, .dead, .dead, .dead, .dead, .dead, .dead, .dead] from by kernel_rfl]; rw [q0, q1, q5, q6]
      kernel_rfl
    · cases hr
  · cases hr
inductive Sstrings_EqualFold_2 where
  | s0 (t1 : ByteArray) (sr10 : Int) (tr11 : Int) (r13 : Int) (obj0s : ByteArray) (obj0q : Nat)

inductive Ostrings_EqualFold_2 where
  | x0 (t1 : ByteArray) (tr11 : Int) (r13 : Int) (obj0s : ByteArray) (obj0q : Nat)

def Ostrings_EqualFold_2.k {β : Type} (o : Ostrings_EqualFold_2) (c0 : ByteArray → Int → Int → ByteArray → Nat → Option β) : Option β := match o with
  | .x0 t1 tr11 r13 obj0s obj0q => c0 t1 tr11 r13 obj0s obj0q

def Estrings_EqualFold_2 : Sstrings_EqualFold_2 → Env
  | .s0 t1 sr10 tr11 r13 obj0s obj0q => [.dead, (.v (.string t1)), .dead, .dead, .dead, .dead, .dead, .dead, .dead, .dead, (.v (.int .i32 sr10)), (.v (.int .i32 tr11)), .dead, (.v (.int .i32 r13)), .dead, .dead, .dead, .dead, .dead, .dead, .dead, .dead, .dead, .dead, .dead, .dead, .dead, .dead, .dead, .dead, .dead, .dead, .dead, .dead, .dead, .dead, .dead, .dead, .dead, .dead, .dead, .dead, .dead, .dead, .dead, .dead, .dead, .dead, .dead, .dead, .dead, .dead, .dead, .dead, .dead, .dead, .dead, .dead, .dead, .dead, .dead, .dead, .dead, .dead, .dead, .dead, .dead, (.ptr 0 0 0 0), .dead, .dead, .dead, .dead, .dead, .dead, .dead, .dead, .dead, .dead, .dead, .dead, .dead, .dead, .dead, .dead, .dead, .dead, .dead, .dead, .dead, .dead, .dead, .dead, .dead, .dead, .dead, .dead, .dead, .dead, .dead, .dead, .dead, .dead, .dead, .dead, .dead, .dead, .dead, .dead, .dead, .dead, .dead, .dead, .dead, .dead, .dead, .dead, .dead, .dead, .dead, .dead, .dead, .dead, .dead]

def Hstrings_EqualFold_2 : Sstrings_EqualFold_2 → Heap
  | .s0 t1 sr10 tr11 r13 obj0s obj0q => [⟨[.junk], 0, 0, true, true, 9, 1, (some (obj0s, obj0q))⟩]

def Tstrings_EqualFold_2 {β : Type} (k : Ex → Env → Heap → Option β) (o : Ostrings_EqualFold_2) : Option β := Ostrings_EqualFold_2.k o (fun t1 tr11 r13 obj0s obj0q => k (.exit 4) [.dead, (.v (.string t1)), .dead, .dead, .dead, .dead, .dead, .dead, .dead, .dead, .dead, (.v (.int .i32 tr11)), .dead, (.v (.int .i32 r13)), .dead, .dead, .dead, .dead, .dead, .dead, .dead, .dead, .dead, .dead, .dead, .dead, .dead, .dead, .dead, .dead, .dead, .dead, .dead, .dead, .dead, .dead, .dead, .dead, .dead, .dead, .dead, .dead, .dead, .dead, .dead, .dead, .dead, .dead, .dead, .dead, .dead, .dead, .dead, .dead, .dead, .dead, .dead, .dead, .dead, .dead, .dead, .dead, .dead, .dead, .dead, .dead, .dead, (.ptr 0 0 0 0), .dead, .dead, .dead, .dead, .dead, .dead, .dead, .dead, .dead, .dead, .dead, .dead, .dead, .dead, .dead, .dead, .dead, .dead, .dead, .dead, .dead, .dead, .dead, .dead, .dead, .dead, .dead, .dead, .dead, .dead, .dead, .dead, .dead, .dead, .dead, .dead, .dead, .dead, .dead, .dead, .dead, .dead, .dead, .dead, .dead, .dead, .dead, .dead, .dead, .dead, .dead, .dead, .dead, .dead, .dead] [⟨[.junk], 0, 0, true, true, 9, 1, (some (obj0s, obj0q))⟩])

def Fstrings_EqualFold_2 (lstrings_EqualFold_2 : Sstrings_EqualFold_2 → Option Ostrings_EqualFold_2) : LoopF := ⟨fun e h k => match Nat.beq e.length 123 with
  | true => (match e.getD 1 .dead, e.getD 10 .dead, e.getD 11 .dead, e.getD 13 .dead, e.getD 67 .dead, h with
    | (.v (.string t1)), (.v (.int .i32 sr10)), (.v (.int .i32 tr11)), (.v (.int .i32 r13)), (.ptr 0 0 0 0), [⟨[.junk], 0, 0, true, true, 9, 1, (some (obj0s, obj0q))⟩] => optK (lstrings_EqualFold_2 (.s0 t1 sr10 tr11 r13 obj0s obj0q)) (Tstrings_EqualFold_2 k)
    | _, _, _, _, _, _ => none)
  | false => none⟩

def clstrings_EqualFold_2 : List Tmp := [0, 2, 3, 4, 5, 6, 7, 8, 9, 12, 14, 15, 16, 17, 18, 19, 20, 21, 22, 23, 24, 25, 26, 27, 28, 29, 30, 31, 32, 33, 34, 35, 36, 37, 38, 39, 40, 41, 42, 43, 44, 45, 46, 47, 48, 49, 50, 51, 52, 53, 54, 55, 56, 57, 58, 59, 60, 61, 62, 63, 64, 65, 66, 68, 69, 70, 71, 72, 73, 74, 75, 76, 77, 78, 79, 80, 81, 82, 83, 84, 85, 86, 87, 88, 89, 90, 91, 92, 93, 94, 95, 96, 97, 98, 99, 100, 101, 102, 103, 104, 105, 106, 107, 108, 109, 110, 111, 112, 113, 114, 115, 116, 117, 118, 119, 120, 121, 122]
def clostrings_EqualFold_2 : List Tmp := [0, 2, 3, 4, 5, 6, 7, 8, 9, 10, 12, 14, 15, 16, 17, 18, 19, 20, 21, 22, 23, 24, 25, 26, 27, 28, 29, 30, 31, 32, 33, 34, 35, 36, 37, 38, 39, 40, 41, 42, 43, 44, 45, 46, 47, 48, 49, 50, 51, 52, 53, 54, 55, 56, 57, 58, 59, 60, 61, 62, 63, 64, 65, 66, 68, 69, 70, 71, 72, 73, 74, 75, 76, 77, 78, 79, 80, 81, 82, 83, 84, 85, 86, 87, 88, 89, 90, 91, 92, 93, 94, 95, 96, 97, 98, 99, 100, 101, 102, 103, 104, 105, 106, 107, 108, 109, 110, 111, 112, 113, 114, 115, 116, 117, 118, 119, 120, 121, 122]

noncomputable def Rstrings_EqualFold_2 {β : Type} (K : PureK) (d : Ostrings_EqualFold_2 → Option β) (r : Sstrings_EqualFold_2 → Option β) : Sstrings_EqualFold_2 → Option β
  | .s0 t1 sr10 tr11 r13 obj0s obj0q =>
    optK (br (r13 != sr10)
        (some (bv (decide (r13 < tr11))))
        (some (bv false))) fun wv1 =>
    Ab.asBool wv1 fun wb2 =>
    br wb2
      (optK (K f_unicode_SimpleFold [rv r13]) fun wv3 =>
      Ab.asInt wv3 .i32 fun wn4 =>
      r (.s0 t1 sr10 tr11 wn4 obj0s obj0q))
      (d (.x0 t1 tr11 r13 obj0s obj0q))
theorem roundstrings_EqualFold_2 (K : PureK) (lstrings_EqualFold_0 : Sstrings_EqualFold_0 → Option Ostrings_EqualFold_0) {β : Type} (r : Env → Heap → Option β) (k : Ex → Env → Heap → Option β) (s : Sstrings_EqualFold_2) : tellOne (addLp X 47 3 (Fstrings_EqualFold_0 lstrings_EqualFold_0)) K 0 47 2 [(1, 1, 0), (2, 1, 0), (3, 1, 0)] 1 clstrings_EqualFold_2 clostrings_EqualFold_2 r k (Estrings_EqualFold_2 s) (Hstrings_EqualFold_2 s) = Rstrings_EqualFold_2 K (Tstrings_EqualFold_2 k) (fun s => r (Estrings_EqualFold_2 s) (Hstrings_EqualFold_2 s)) s := by
  cases s <;> kernel_rfl
theorem Ostrings_EqualFold_2.bind_k {β γ : Type} (o : Ostrings_EqualFold_2) (c0 : ByteArray → Int → Int → ByteArray → Nat → Option β) (φ : β → Option γ) : (Ostrings_EqualFold_2.k o c0).bind φ = Ostrings_EqualFold_2.k o (fun t1 tr11 r13 obj0s obj0q => (c0 t1 tr11 r13 obj0s obj0q).bind φ) := by cases o <;> rfl
theorem natstrings_EqualFold_2 (K : PureK) {β γ : Type} (φ : β → Option γ) (d : Ostrings_EqualFold_2 → Option β) (r : Sstrings_EqualFold_2 → Option β) (s : Sstrings_EqualFold_2) : Rstrings_EqualFold_2 K (fun o => (d o).bind φ) (fun s => (r s).bind φ) s = (Rstrings_EqualFold_2 K d r s).bind φ := by
  cases s <;> simp only [Rstrings_EqualFold_2, bind_optK, bind_br, bind_asInt, bind_asBool, bind_asStr, bind_asLst, bind_asAgg, bind_asTup, bind_asBig, bind_asErr, bind_none]
theorem outstrings_EqualFold_2 (o : Ostrings_EqualFold_2) : ∃ x e' h', ∀ {β : Type} (k : Ex → Env → Heap → Option β), Tstrings_EqualFold_2 k o = k x e' h' := by cases o <;> exact ⟨_, _, _, fun _ => rfl⟩
theorem okstrings_EqualFold_2 {K : PureK} (lstrings_EqualFold_0 : Sstrings_EqualFold_0 → Option Ostrings_EqualFold_0) (hX : Sound (addLp X 47 3 (Fstrings_EqualFold_0 lstrings_EqualFold_0))) (hK : KOk X K) {lstrings_EqualFold_2 : Sstrings_EqualFold_2 → Option Ostrings_EqualFold_2} (hl : ∀ s o, lstrings_EqualFold_2 s = some o → ∃ m, fuelRec (Rstrings_EqualFold_2 K some) m s = some o) (β : Type) (e : Env) (h : Heap) (k : Ex → Env → Heap → Option β) (r : β) (hr : (Fstrings_EqualFold_2 lstrings_EqualFold_2).run e h k = some r) : ∃ x e' h', k x e' h' = some r ∧ CodeAt (addLp X 47 3 (Fstrings_EqualFold_0 lstrings_EqualFold_0)) (.loop (loopBody ((addLp X 47 3 (Fstrings_EqualFold_0 lstrings_EqualFold_0))).P 47 2)) e h x e' h' := by
  obtain ⟨fn, c, hin⟩ := loopIn_of (X := (addLp X 47 3 (Fstrings_EqualFold_0 lstrings_EqualFold_0))) (f := 47) (i := 2) (key := 30) (by kernel_rfl)
  simp only [Fstrings_EqualFold_2] at hr
  split at hr
  · rename_i hlen
    have hlen := Nat.eq_of_beq_eq_true hlen
    split at hr
    · rename_i q1 q10 q11 q13 q67
      obtain ⟨o, ho, hr⟩ := optK_some hr
      refine tell_ok hX (KOk.congr (X := X) (Y := (addLp X 47 3 (Fstrings_EqualFold_0 lstrings_EqualFold_0))) rfl rfl hK) hin (E := Estrings_EqualFold_2) (H := Hstrings_EqualFold_2) (R := fun d r => Rstrings_EqualFold_2 K d r) (T := Tstrings_EqualFold_2) (ts := [(1, 1, 0), (2, 1, 0), (3, 1, 0)]) (len := 1) (cl := clstrings_EqualFold_2) (clo := clostrings_EqualFold_2) (roundstrings_EqualFold_2 K lstrings_EqualFold_0) (natstrings_EqualFold_2 K) outstrings_EqualFold_2 (hl _ _ ho) (cl0 := clstrings_EqualFold_2) (ts0 := []) ?_ rfl (by kernel_rfl) (by kernel_rfl) hr
      rw [clear_lit e 123 hlen, show clearEnv clstrings_EqualFold_2 ((List.range 123).map fun i => e.getD i .dead) = [.dead, e.getD 1 .dead, .dead, .dead, .dead, .dead, .dead, .dead, .dead, .dead, e.getD 10 .dead, e.getD 11 .dead, .dead, e.getD 13 .dead, .dead, .dead, .dead, .dead, .dead, .dead, .dead, .dead, .dead, .dead, .dead, .dead, .dead, .dead, .dead, .dead, .dead, .dead, .dead, .dead, .dead, .dead, .dead, .dead, .dead, .dead, .dead, .dead, .dead, .dead, .dead, .dead, .dead, .dead, .dead, .dead, .dead, .dead, .dead, .dead, .dead, .dead, .dead, .dead, .dead, .dead, .dead, .dead, .dead, .dead, .dead, .dead, .dead, e.getD 67 .dead, .dead, .dead, .dead, .dead, .dead, .dead, .dead, .dead, .dead, .dead, .dead, .dead, .dead, .dead, .dead, .dead, .dead, .dead, .dead, .dead, .dead, .dead, .dead, .dead, .dead, .dead, .dead, .dead, .dead, .dead, .dead, .dead, .dead, .dead, .dead, .dead, .dead, .dead, .dead, .dead, .dead, .dead, .dead, .dead, .dead, .dead, .dead, .dead, .dead, .dead, .dead, .dead, .dead, .dead, .dead] from by kernel_rfl]; rw [q1, q10, q11, q13, q67]
      kernel_rfl
    · cases hr
  · cases hr
inductive Sstrings_EqualFold_1 where
  | s0 (t1 : ByteArray) (obj0s : ByteArray) (obj0q : Nat)

inductive Ostrings_EqualFold_1 where
  | x0 (t1 : ByteArray) (t4 : Bool) (obj0s : ByteArray) (obj0q : Nat)
  | x1 (t1 : ByteArray) (obj0s : ByteArray) (obj0q : Nat)

def Ostrings_EqualFold_1.k {β : Type} (o : Ostrings_EqualFold_1) (c0 : ByteArray → Bool → ByteArray → Nat → Option β) (c1 : ByteArray → ByteArray → Nat → Option β) : Option β := match o with
  | .x0 t1 t4 obj0s obj0q => c0 t1 t4 obj0s obj0q
  | .x1 t1 obj0s obj0q => c1 t1 obj0s obj0q

def Estrings_EqualFold_1 : Sstrings_EqualFold_1 → Env
  | .s0 t1 obj0s obj0q => [.dead, (.v (.string t1)), .dead, .dead, .dead, .dead, .dead, .dead, .dead, .dead, .dead, .dead, .dead, .dead, .dead, .dead, .dead, .dead, .dead, .dead, .dead, .dead, .dead, .dead, .dead, .dead, .dead, .dead, .dead, .dead, .dead, .dead, .dead, .dead, .dead, .dead, .dead, .dead, .dead, .dead, .dead, .dead, .dead, .dead, .dead, .dead, .dead, .dead, .dead, .dead, .dead, .dead, .dead, .dead, .dead, .dead, .dead, .dead, .dead, .dead, .dead, .dead, .dead, .dead, .dead, .dead, .dead, (.ptr 0 0 0 0), .dead, .dead, .dead, .dead, .dead, .dead, .dead, .dead, .dead, .dead, .dead, .dead, .dead, .dead, .dead, .dead, .dead, .dead, .dead, .dead, .dead, .dead, .dead, .dead, .dead, .dead, .dead, .dead, .dead, .dead, .dead, .dead, .dead, .dead, .dead, .dead, .dead, .dead, .dead, .dead, .dead, .dead, .dead, .dead, .dead, .dead, .dead, .dead, .dead, .dead, .dead, .dead, .dead, .dead, .dead]

def Hstrings_EqualFold_1 : Sstrings_EqualFold_1 → Heap
  | .s0 t1 obj0s obj0q => [⟨[.junk], 0, 0, true, true, 9, 1, (some (obj0s, obj0q))⟩]

def Tstrings_EqualFold_1 {β : Type} (k : Ex → Env → Heap → Option β) (o : Ostrings_EqualFold_1) : Option β := Ostrings_EqualFold_1.k o (fun t1 t4 obj0s obj0q => k .ret [.dead, (.v (.string t1)), .dead, .dead, (.v (.bool t4)), .dead, .dead, .dead, .dead, .dead, .dead, .dead, .dead, .dead, .dead, .dead, .dead, .dead, .dead, .dead, .dead, .dead, .dead, .dead, .dead, .dead, .dead, .dead, .dead, .dead, .dead, .dead, .dead, .dead, .dead, .dead, .dead, .dead, .dead, .dead, .dead, .dead, .dead, .dead, .dead, .dead, .dead, .dead, .dead, .dead, .dead, .dead, .dead, .dead, .dead, .dead, .dead, .dead, .dead, .dead, .dead, .dead, .dead, .dead, .dead, .dead, .dead, .dead, .dead, .dead, .dead, .dead, .dead, .dead, .dead, .dead, .dead, .dead, .dead, .dead, .dead, .dead, .dead, .dead, .dead, .dead, .dead, .dead, .dead, .dead, .dead, .dead, .dead, .dead, .dead, .dead, .dead, .dead, .dead, .dead, .dead, .dead, .dead, .dead, .dead, .dead, .dead, .dead, .dead, .dead, .dead, .dead, .dead, .dead, .dead, .dead, .dead, .dead, .dead, .dead, .dead, .dead, .dead] [⟨[.junk], 0, 0, true, true, 9, 1, (some (obj0s, obj0q))⟩]) (fun t1 obj0s obj0q => k (.exit 2) [.dead, (.v (.string t1)), .dead, .dead, .dead, .dead, .dead, .dead, .dead, .dead, .dead, .dead, .dead, .dead, .dead, .dead, .dead, .dead, .dead, .dead, .dead, .dead, .dead, .dead, .dead, .dead, .dead, .dead, .dead, .dead, .dead, .dead, .dead, .dead, .dead, .dead, .dead, .dead, .dead, .dead, .dead, .dead, .dead, .dead, .dead, .dead, .dead, .dead, .dead, .dead, .dead, .dead, .dead, .dead, .dead, .dead, .dead, .dead, .dead, .dead, .dead, .dead, .dead, .dead, .dead, .dead, .dead, .dead, .dead, .dead, .dead, .dead, .dead, .dead, .dead, .dead, .dead, .dead, .dead, .dead, .dead, .dead, .dead, .dead, .dead, .dead, .dead, .dead, .dead, .dead, .dead, .dead, .dead, .dead, .dead, .dead, .dead, .dead, .dead, .dead, .dead, .dead, .dead, .dead, .dead, .dead, .dead, .dead, .dead, .dead, .dead, .dead, .dead, .dead, .dead, .dead, .dead, .dead, .dead, .dead, .dead, .dead, .dead] [⟨[.junk], 0, 0, true, true, 9, 1, (some (obj0s, obj0q))⟩])

def Fstrings_EqualFold_1 (lstrings_EqualFold_1 : Sstrings_EqualFold_1 → Option Ostrings_EqualFold_1) : LoopF := ⟨fun e h k => match Nat.beq e.length 123 with
  | true => (match e.getD 1 .dead, e.getD 67 .dead, h with
    | (.v (.string t1)), (.ptr 0 0 0 0), [⟨[.junk], 0, 0, true, true, 9, 1, (some (obj0s, obj0q))⟩] => optK (lstrings_EqualFold_1 (.s0 t1 obj0s obj0q)) (Tstrings_EqualFold_1 k)
    | _, _, _ => none)
  | false => none⟩

def clstrings_EqualFold_1 : List Tmp := [0, 2, 3, 4, 5, 6, 7, 8, 9, 10, 11, 12, 13, 14, 15, 16, 17, 18, 19, 20, 21, 22, 23, 24, 25, 26, 27, 28, 29, 30, 31, 32, 33, 34, 35, 36, 37, 38, 39, 40, 41, 42, 43, 44, 45, 46, 47, 48, 49, 50, 51, 52, 53, 54, 55, 56, 57, 58, 59, 60, 61, 62, 63, 64, 65, 66, 68, 69, 70, 71, 72, 73, 74, 75, 76, 77, 78, 79, 80, 81, 82, 83, 84, 85, 86, 87, 88, 89, 90, 91, 92, 93, 94, 95, 96, 97, 98, 99, 100, 101, 102, 103, 104, 105, 106, 107, 108, 109, 110, 111, 112, 113, 114, 115, 116, 117, 118, 119, 120, 121, 122]
def clostrings_EqualFold_1 : List Tmp := [0, 2, 3, 5, 6, 7, 8, 9, 10, 11, 12, 13, 14, 15, 16, 17, 18, 19, 20, 21, 22, 23, 24, 25, 26, 27, 28, 29, 30, 31, 32, 33, 34, 35, 36, 37, 38, 39, 40, 41, 42, 43, 44, 45, 46, 47, 48, 49, 50, 51, 52, 53, 54, 55, 56, 57, 58, 59, 60, 61, 62, 63, 64, 65, 66, 67, 68, 69, 70, 71, 72, 73, 74, 75, 76, 77, 78, 79, 80, 81, 82, 83, 84, 85, 86, 87, 88, 89, 90, 91, 92, 93, 94, 95, 96, 97, 98, 99, 100, 101, 102, 103, 104, 105, 106, 107, 108, 109, 110, 111, 112, 113, 114, 115, 116, 117, 118, 119, 120, 121, 122]

noncomputable def Rstrings_EqualFold_1 {β : Type} (K : PureK) (lstrings_EqualFold_2 : Sstrings_EqualFold_2 → Option Ostrings_EqualFold_2) (d : Ostrings_EqualFold_1 → Option β) (r : Sstrings_EqualFold_1 → Option β) : Sstrings_EqualFold_1 → Option β
  | .s0 t1 obj0s obj0q =>
    br (obj0q.blt obj0s.size)
      (br (((t1.size : Nat) : Int) == 0)
        (d (.x0 t1 false obj0s (obj0q + (Utf8.decode obj0s obj0q).snd)))
        (optK (K f_utf8_DecodeRuneInString [sv t1]) fun wv9 =>
        Ab.asTup wv9 2 fun wg10 =>
        Ab.asInt (wg10 0) .i32 fun wn11 =>
        Ab.asInt (wg10 1) .i64 fun wn12 =>
        br (decide (0 ≤ wn12))
          (br (decide (wn12 ≤ ((t1.size : Nat) : Int)))
            (br (wn11 == (((Utf8.decode obj0s obj0q).fst : Nat) : Int))
              (r (.s0 (cutStr t1 (some wn12) none) obj0s (obj0q + (Utf8.decode obj0s obj0q).snd)))
              (br (decide (wn11 < (((Utf8.decode obj0s obj0q).fst : Nat) : Int)))
                (br (decide ((((Utf8.decode obj0s obj0q).fst : Nat) : Int) < 128))
                  (optK (br (decide (65 ≤ wn11))
                      (br (decide (wn11 ≤ 90))
                        (some (bv ((((Utf8.decode obj0s obj0q).fst : Nat) : Int) == IntKind.i32.wrap (IntKind.i32.wrap (wn11 + 97) - 65))))
                        (some (bv false)))
                      (some (bv false))) fun wv13 =>
                  Ab.asBool wv13 fun wb14 =>
                  br wb14
                    (r (.s0 (cutStr t1 (some wn12) none) obj0s (obj0q + (Utf8.decode obj0s obj0q).snd)))
                    (d (.x0 (cutStr t1 (some wn12) none) false obj0s (obj0q + (Utf8.decode obj0s obj0q).snd))))
                  (optK (K f_unicode_SimpleFold [rv wn11]) fun wv15 =>
                  Ab.asInt wv15 .i32 fun wn16 =>
                  optK (lstrings_EqualFold_2 (Sstrings_EqualFold_2.s0 (cutStr t1 (some wn12) none) wn11 ((((Utf8.decode obj0s obj0q).fst : Nat) : Int)) wn16 obj0s (obj0q + (Utf8.decode obj0s obj0q).snd))) fun wo17 => Ostrings_EqualFold_2.k wo17 (fun (t1_18 : ByteArray) (tr11_18 : Int) (r13_18 : Int) (obj0s_18 : ByteArray) (obj0q_18 : Nat) =>
                  br (r13_18 == tr11_18)
                    (r (.s0 t1_18 obj0s_18 obj0q_18))
                    (d (.x0 t1_18 false obj0s_18 obj0q_18)))))
                (br (decide (wn11 < 128))
                  (optK (br (decide (65 ≤ (((Utf8.decode obj0s obj0q).fst : Nat) : Int)))
                      (br (decide ((((Utf8.decode obj0s obj0q).fst : Nat) : Int) ≤ 90))
                        (some (bv (wn11 == IntKind.i32.wrap (IntKind.i32.wrap ((((Utf8.decode obj0s obj0q).fst : Nat) : Int) + 97) - 65))))
                        (some (bv false)))
                      (some (bv false))) fun wv19 =>
                  Ab.asBool wv19 fun wb20 =>
                  br wb20
                    (r (.s0 (cutStr t1 (some wn12) none) obj0s (obj0q + (Utf8.decode obj0s obj0q).snd)))
                    (d (.x0 (cutStr t1 (some wn12) none) false obj0s (obj0q + (Utf8.decode obj0s obj0q).snd))))
                  (optK (K f_unicode_SimpleFold [rv ((((Utf8.decode obj0s obj0q).fst : Nat) : Int))]) fun wv21 =>
                  Ab.asInt wv21 .i32 fun wn22 =>
                  optK (lstrings_EqualFold_2 (Sstrings_EqualFold_2.s0 (cutStr t1 (some wn12) none) ((((Utf8.decode obj0s obj0q).fst : Nat) : Int)) wn11 wn22 obj0s (obj0q + (Utf8.decode obj0s obj0q).snd))) fun wo23 => Ostrings_EqualFold_2.k wo23 (fun (t1_24 : ByteArray) (tr11_24 : Int) (r13_24 : Int) (obj0s_24 : ByteArray) (obj0q_24 : Nat) =>
                  br (r13_24 == tr11_24)
                    (r (.s0 t1_24 obj0s_24 obj0q_24))
                    (d (.x0 t1_24 false obj0s_24 obj0q_24)))))))
            (none))
          (none)))
      (d (.x1 t1 obj0s obj0q))
theorem roundstrings_EqualFold_1 (K : PureK) (lstrings_EqualFold_0 : Sstrings_EqualFold_0 → Option Ostrings_EqualFold_0) (lstrings_EqualFold_2 : Sstrings_EqualFold_2 → Option Ostrings_EqualFold_2) {β : Type} (r : Env → Heap → Option β) (k : Ex → Env → Heap → Option β) (s : Sstrings_EqualFold_1) : tellOne (addLp (addLp X 47 3 (Fstrings_EqualFold_0 lstrings_EqualFold_0)) 47 30 (Fstrings_EqualFold_2 lstrings_EqualFold_2)) K 0 47 1 [(1, 1, 0), (2, 1, 0), (3, 1, 0)] 1 clstrings_EqualFold_1 clostrings_EqualFold_1 r k (Estrings_EqualFold_1 s) (Hstrings_EqualFold_1 s) = Rstrings_EqualFold_1 K lstrings_EqualFold_2 (Tstrings_EqualFold_1 k) (fun s => r (Estrings_EqualFold_1 s) (Hstrings_EqualFold_1 s)) s := by
  cases s <;> kernel_rfl
theorem Ostrings_EqualFold_1.bind_k {β γ : Type} (o : Ostrings_EqualFold_1) (c0 : ByteArray → Bool → ByteArray → Nat → Option β) (c1 : ByteArray → ByteArray → Nat → Option β) (φ : β → Option γ) : (Ostrings_EqualFold_1.k o c0 c1).bind φ = Ostrings_EqualFold_1.k o (fun t1 t4 obj0s obj0q => (c0 t1 t4 obj0s obj0q).bind φ) (fun t1 obj0s obj0q => (c1 t1 obj0s obj0q).bind φ) := by cases o <;> rfl
theorem natstrings_EqualFold_1 (K : PureK) (lstrings_EqualFold_2 : Sstrings_EqualFold_2 → Option Ostrings_EqualFold_2) {β γ : Type} (φ : β → Option γ) (d : Ostrings_EqualFold_1 → Option β) (r : Sstrings_EqualFold_1 → Option β) (s : Sstrings_EqualFold_1) : Rstrings_EqualFold_1 K lstrings_EqualFold_2 (fun o => (d o).bind φ) (fun s => (r s).bind φ) s = (Rstrings_EqualFold_1 K lstrings_EqualFold_2 d r s).bind φ := by
  cases s <;> simp only [Rstrings_EqualFold_1, bind_optK, bind_br, bind_asInt, bind_asBool, bind_asStr, bind_asLst, bind_asAgg, bind_asTup, bind_asBig, bind_asErr, bind_none, Ostrings_EqualFold_2.bind_k]
theorem outstrings_EqualFold_1 (o : Ostrings_EqualFold_1) : ∃ x e' h', ∀ {β : Type} (k : Ex → Env → Heap → Option β), Tstrings_EqualFold_1 k o = k x e' h' := by cases o <;> exact ⟨_, _, _, fun _ => rfl⟩
theorem okstrings_EqualFold_1 {K : PureK} (lstrings_EqualFold_0 : Sstrings_EqualFold_0 → Option Ostrings_EqualFold_0) (lstrings_EqualFold_2 : Sstrings_EqualFold_2 → Option Ostrings_EqualFold_2) (hX : Sound (addLp (addLp X 47 3 (Fstrings_EqualFold_0 lstrings_EqualFold_0)) 47 30 (Fstrings_EqualFold_2 lstrings_EqualFold_2))) (hK : KOk X K) {lstrings_EqualFold_1 : Sstrings_EqualFold_1 → Option Ostrings_EqualFold_1} (hl : ∀ s o, lstrings_EqualFold_1 s = some o → ∃ m, fuelRec (Rstrings_EqualFold_1 K lstrings_EqualFold_2 some) m s = some o) (β : Type) (e : Env) (h : Heap) (k : Ex → Env → Heap → Option β) (r : β) (hr : (Fstrings_EqualFold_1 lstrings_EqualFold_1).run e h k = some r) : ∃ x e' h', k x e' h' = some r ∧ CodeAt (addLp (addLp X 47 3 (Fstrings_EqualFold_0 lstrings_EqualFold_0)) 47 30 (Fstrings_EqualFold_2 lstrings_EqualFold_2)) (.loop (loopBody ((addLp (addLp X 47 3 (Fstrings_EqualFold_0 lstrings_EqualFold_0)) 47 30 (Fstrings_EqualFold_2 lstrings_EqualFold_2))).P 47 1)) e h x e' h' := by
  obtain ⟨fn, c, hin⟩ := loopIn_of (X := (addLp (addLp X 47 3 (Fstrings_EqualFold_0 lstrings_EqualFold_0)) 47 30 (Fstrings_EqualFold_2 lstrings_EqualFold_2))) (f := 47) (i := 1) (key := 17) (by kernel_rfl)
  simp only [Fstrings_EqualFold_1] at hr
  split at hr
  · rename_i hlen
    have hlen := Nat.eq_of_beq_eq_true hlen
    split at hr
    · rename_i q1 q67
      obtain ⟨o, ho, hr⟩ := optK_some hr
      refine tell_ok hX (KOk.congr (X := X) (Y := (addLp (addLp X 47 3 (Fstrings_EqualFold_0 lstrings_EqualFold_0)) 47 30 (Fstrings_EqualFold_2 lstrings_EqualFold_2))) rfl rfl hK) hin (E := Estrings_EqualFold_1) (H := Hstrings_EqualFold_1) (R := fun d r => Rstrings_EqualFold_1 K lstrings_EqualFold_2 d r) (T := Tstrings_EqualFold_1) (ts := [(1, 1, 0), (2, 1, 0), (3, 1, 0)]) (len := 1) (cl := clstrings_EqualFold_1) (clo := clostrings_EqualFold_1) (roundstrings_EqualFold_1 K lstrings_EqualFold_0 lstrings_EqualFold_2) (natstrings_EqualFold_1 K lstrings_EqualFold_2) outstrings_EqualFold_1 (hl _ _ ho) (cl0 := clstrings_EqualFold_1) (ts0 := []) ?_ rfl (by kernel_rfl) (by kernel_rfl) hr
      rw [clear_lit e 123 hlen, show clearEnv clstrings_EqualFold_1 ((List.range 123).map fun i => e.getD i .dead) = [.dead, e.getD 1 .dead, .dead, .dead, .dead, .dead, .dead, .dead, .dead, .dead, .dead, .dead, .dead, .dead, .dead, .dead, .dead, .dead, .dead, .dead, .dead, .dead, .dead, .dead, .dead, .dead, .dead, .dead, .dead, .dead, .dead, .dead, .dead, .dead, .dead, .dead, .dead, .dead, .dead, .dead, .dead, .dead, .dead, .dead, .dead, .dead, .dead, .dead, .dead, .dead, .dead, .dead, .dead, .dead, .dead, .dead, .dead, .dead, .dead, .dead, .dead, .dead, .dead, .dead, .dead, .dead, .dead, e.getD 67 .dead, .dead, .dead, .dead, .dead, .dead, .dead, .dead, .dead, .dead, .dead, .dead, .dead, .dead, .dead, .dead, .dead, .dead, .dead, .dead, .dead, .dead, .dead, .dead, .dead, .dead, .dead, .dead, .dead, .dead, .dead, .dead, .dead, .dead, .dead, .dead, .dead, .dead, .dead, .dead, .dead, .dead, .dead, .dead, .dead, .dead, .dead, .dead, .dead, .dead, .dead, .dead, .dead, .dead, .dead, .dead] from by kernel_rfl]; rw [q1, q67]
      kernel_rfl
    · cases hr
  · cases hr
noncomputable def Rstrings_EqualFold (K : PureK) (lstrings_EqualFold_0 : Sstrings_EqualFold_0 → Option Ostrings_EqualFold_0) (lstrings_EqualFold_1 : Sstrings_EqualFold_1 → Option Ostrings_EqualFold_1) (s0 : ByteArray) (t1 : ByteArray) : Option AV :=
  optK (lstrings_EqualFold_0 (Sstrings_EqualFold_0.s0 s0 t1 0 (if ((t1.size : Nat) : Int) < ((s0.size : Nat) : Int) then ((t1.size : Nat) : Int) else ((s0.size : Nat) : Int)))) fun wo3 => Ostrings_EqualFold_0.k wo3
      (fun (s0_4 : ByteArray) (t1_4 : ByteArray) (i5_4 : Int) => br (decide (0 ≤ i5_4))
        (br (decide (i5_4 ≤ ((s0_4.size : Nat) : Int)))
          (br (decide (0 ≤ i5_4))
            (br (decide (i5_4 ≤ ((t1_4.size : Nat) : Int)))
              (optK (lstrings_EqualFold_1 (Sstrings_EqualFold_1.s0 (cutStr t1_4 (some i5_4) none) (cutStr s0_4 (some i5_4) none) 0)) fun wo5 => Ostrings_EqualFold_1.k wo5
                (fun (t1_6 : ByteArray) (t4_6 : Bool) (obj0s_6 : ByteArray) (obj0q_6 : Nat) => some (bv t4_6))
                (fun (t1_7 : ByteArray) (obj0s_7 : ByteArray) (obj0q_7 : Nat) => some (bv (((t1_7.size : Nat) : Int) == 0))))
              (none))
            (none))
          (none))
        (none))
      (fun (s0_8 : ByteArray) (t1_8 : ByteArray) (t4_8 : Bool) (i5_8 : Int) => some (bv t4_8))
      (fun (s0_9 : ByteArray) (t1_9 : ByteArray) (i5_9 : Int) => some (bv (((s0_9.size : Nat) : Int) == ((t1_9.size : Nat) : Int))))
theorem topstrings_EqualFold (K : PureK) (lstrings_EqualFold_0 : Sstrings_EqualFold_0 → Option Ostrings_EqualFold_0) (lstrings_EqualFold_2 : Sstrings_EqualFold_2 → Option Ostrings_EqualFold_2) (lstrings_EqualFold_1 : Sstrings_EqualFold_1 → Option Ostrings_EqualFold_1) (s0 : ByteArray) (t1 : ByteArray) : topK (addLp (addLp (addLp X 47 3 (Fstrings_EqualFold_0 lstrings_EqualFold_0)) 47 30 (Fstrings_EqualFold_2 lstrings_EqualFold_2)) 47 17 (Fstrings_EqualFold_1 lstrings_EqualFold_1)) K 0 f_strings_EqualFold [(.v (.string s0)), (.v (.string t1))] = Rstrings_EqualFold K lstrings_EqualFold_0 lstrings_EqualFold_1 s0 t1 := by kernel_rfl
theorem pcstrings_EqualFold {K : PureK} (hK : KOk X K) {lstrings_EqualFold_0 : Sstrings_EqualFold_0 → Option Ostrings_EqualFold_0} {lstrings_EqualFold_2 : Sstrings_EqualFold_2 → Option Ostrings_EqualFold_2} {lstrings_EqualFold_1 : Sstrings_EqualFold_1 → Option Ostrings_EqualFold_1} (hstrings_EqualFold_0 : ∀ s o, lstrings_EqualFold_0 s = some o → ∃ m, fuelRec (Rstrings_EqualFold_0 K some) m s = some o) (hstrings_EqualFold_2 : ∀ s o, lstrings_EqualFold_2 s = some o → ∃ m, fuelRec (Rstrings_EqualFold_2 K some) m s = some o) (hstrings_EqualFold_1 : ∀ s o, lstrings_EqualFold_1 s = some o → ∃ m, fuelRec (Rstrings_EqualFold_1 K lstrings_EqualFold_2 some) m s = some o) {s0 : ByteArray} {t1 : ByteArray} {v : AV} (h : Rstrings_EqualFold K lstrings_EqualFold_0 lstrings_EqualFold_1 s0 t1 = some v) : PureCall X f_strings_EqualFold [(.v (.string s0)), (.v (.string t1))] v := by
  have hSo0 := soundX
  obtain ⟨_, _, hin0⟩ := loopIn_of (X := X) (f := 47) (i := 0) (key := 3) (by kernel_rfl)
  have hSo1 := sound_add hSo0 hin0 (okstrings_EqualFold_0 hSo0 hK hstrings_EqualFold_0)
  obtain ⟨_, _, hin1⟩ := loopIn_of (X := (addLp X 47 3 (Fstrings_EqualFold_0 lstrings_EqualFold_0))) (f := 47) (i := 2) (key := 30) (by kernel_rfl)
  have hSo2 := sound_add hSo1 hin1 (okstrings_EqualFold_2 lstrings_EqualFold_0 hSo1 hK hstrings_EqualFold_2)
  obtain ⟨_, _, hin2⟩ := loopIn_of (X := (addLp (addLp X 47 3 (Fstrings_EqualFold_0 lstrings_EqualFold_0)) 47 30 (Fstrings_EqualFold_2 lstrings_EqualFold_2))) (f := 47) (i := 1) (key := 17) (by kernel_rfl)
  have hSo3 := sound_add hSo2 hin2 (okstrings_EqualFold_1 lstrings_EqualFold_0 lstrings_EqualFold_2 hSo2 hK hstrings_EqualFold_1)
  exact tell_top (X := X) (Y := (addLp (addLp (addLp X 47 3 (Fstrings_EqualFold_0 lstrings_EqualFold_0)) 47 30 (Fstrings_EqualFold_2 lstrings_EqualFold_2)) 47 17 (Fstrings_EqualFold_1 lstrings_EqualFold_1))) rfl rfl hSo3 hK ((topstrings_EqualFold K lstrings_EqualFold_0 lstrings_EqualFold_2 lstrings_EqualFold_1 s0 t1).trans h)

/-! 64: unicode.SimpleFold -/
inductive Sunicode_SimpleFold_0 where
  | s0 (r0 : Int) (lo3 : Int) (hi4 : Int)

inductive Ounicode_SimpleFold_0 where
  | x0 (r0 : Int) (lo3 : Int)

def Ounicode_SimpleFold_0.k {β : Type} (o : Ounicode_SimpleFold_0) (c0 : Int → Int → Option β) : Option β := match o with
  | .x0 r0 lo3 => c0 r0 lo3

def Eunicode_SimpleFold_0 : Sunicode_SimpleFold_0 → Env
  | .s0 r0 lo3 hi4 => [(.v (.int .i32 r0)), .dead, .dead, (.v (.int .i64 lo3)), (.v (.int .i64 hi4)), .dead, .dead, .dead, .dead, .dead, .dead, .dead, .dead, .dead, .dead, .dead, .dead, .dead, .dead, .dead, .dead, .dead, .dead, .dead, .dead, .dead, .dead, .dead, .dead, .dead, .dead, .dead, .dead, .dead, .dead, .dead, .dead, .dead, .dead, .dead, .dead, .dead, .dead, .dead, .dead, .dead, .dead, .dead, .dead, .dead, .dead, .dead, .dead, .dead, .dead, .dead, .dead, .dead, .dead, .dead, .dead, .dead, .dead, .dead, .dead, .dead, .dead, .dead, .dead, .dead, .dead, .dead, .dead, .dead, .dead, .dead, .dead, .dead, .dead, .dead]

def Hunicode_SimpleFold_0 : Sunicode_SimpleFold_0 → Heap
  | .s0 r0 lo3 hi4 => []

def Tunicode_SimpleFold_0 {β : Type} (k : Ex → Env → Heap → Option β) (o : Ounicode_SimpleFold_0) : Option β := Ounicode_SimpleFold_0.k o (fun r0 lo3 => k (.exit 0) [(.v (.int .i32 r0)), .dead, .dead, (.v (.int .i64 lo3)), .dead, .dead, .dead, .dead, .dead, .dead, .dead, .dead, .dead, .dead, .dead, .dead, .dead, .dead, .dead, .dead, .dead, .dead, .dead, .dead, .dead, .dead, .dead, .dead, .dead, .dead, .dead, .dead, .dead, .dead, .dead, .dead, .dead, .dead, .dead, .dead, .dead, .dead, .dead, .dead, .dead, .dead, .dead, .dead, .dead, .dead, .dead, .dead, .dead, .dead, .dead, .dead, .dead, .dead, .dead, .dead, .dead, .dead, .dead, .dead, .dead, .dead, .dead, .dead, .dead, .dead, .dead, .dead, .dead, .dead, .dead, .dead, .dead, .dead, .dead, .dead] [])

def Funicode_SimpleFold_0 (lunicode_SimpleFold_0 : Sunicode_SimpleFold_0 → Option Ounicode_SimpleFold_0) : LoopF := ⟨fun e h k => match Nat.beq e.length 80 with
  | true => (match e.getD 0 .dead, e.getD 3 .dead, e.getD 4 .dead, h with
    | (.v (.int .i32 r0)), (.v (.int .i64 lo3)), (.v (.int .i64 hi4)), [] => optK (lunicode_SimpleFold_0 (.s0 r0 lo3 hi4)) (Tunicode_SimpleFold_0 k)
    | _, _, _, _ => none)
  | false => none⟩

def clunicode_SimpleFold_0 : List Tmp := [1, 2, 5, 6, 7, 8, 9, 10, 11, 12, 13, 14, 15, 16, 17, 18, 19, 20, 21, 22, 23, 24, 25, 26, 27, 28, 29, 30, 31, 32, 33, 34, 35, 36, 37, 38, 39, 40, 41, 42, 43, 44, 45, 46, 47, 48, 49, 50, 51, 52, 53, 54, 55, 56, 57, 58, 59, 60, 61, 62, 63, 64, 65, 66, 67, 68, 69, 70, 71, 72, 73, 74, 75, 76, 77, 78, 79]
def clounicode_SimpleFold_0 : List Tmp := [1, 2, 4, 5, 6, 7, 8, 9, 10, 11, 12, 13, 14, 15, 16, 17, 18, 19, 20, 21, 22, 23, 24, 25, 26, 27, 28, 29, 30, 31, 32, 33, 34, 35, 36, 37, 38, 39, 40, 41, 42, 43, 44, 45, 46, 47, 48, 49, 50, 51, 52, 53, 54, 55, 56, 57, 58, 59, 60, 61, 62, 63, 64, 65, 66, 67, 68, 69, 70, 71, 72, 73, 74, 75, 76, 77, 78, 79]

noncomputable def Runicode_SimpleFold_0 {β : Type} (K : PureK) (d : Ounicode_SimpleFold_0 → Option β) (r : Sunicode_SimpleFold_0 → Option β) : Sunicode_SimpleFold_0 → Option β
  | .s0 r0 lo3 hi4 =>
    br (decide (lo3 < hi4))
      (br (decide (0 ≤ w64 ((IntKind.u64.wrap (w64 (lo3 + hi4))).fdiv 2)))
        (br (decide (w64 ((IntKind.u64.wrap (w64 (lo3 + hi4))).fdiv 2) < 94))
          (optK ([AV.agg [AV.v (Value.int IntKind.u16 75), AV.v (Value.int IntKind.u16 107)], AV.agg [AV.v (Value.int IntKind.u16 83), AV.v (Value.int IntKind.u16 115)], AV.agg [AV.v (Value.int IntKind.u16 107), AV.v (Value.int IntKind.u16 8490)], AV.agg [AV.v (Value.int IntKind.u16 115), AV.v (Value.int IntKind.u16 383)], AV.agg [AV.v (Value.int IntKind.u16 181), AV.v (Value.int IntKind.u16 924)], AV.agg [AV.v (Value.int IntKind.u16 197), AV.v (Value.int IntKind.u16 229)], AV.agg [AV.v (Value.int IntKind.u16 223), AV.v (Value.int IntKind.u16 7838)], AV.agg [AV.v (Value.int IntKind.u16 229), AV.v (Value.int IntKind.u16 8491)], AV.agg [AV.v (Value.int IntKind.u16 304), AV.v (Value.int IntKind.u16 304)], AV.agg [AV.v (Value.int IntKind.u16 305), AV.v (Value.int IntKind.u16 305)], AV.agg [AV.v (Value.int IntKind.u16 383), AV.v (Value.int IntKind.u16 83)], AV.agg [AV.v (Value.int IntKind.u16 452), AV.v (Value.int IntKind.u16 453)], AV.agg [AV.v (Value.int IntKind.u16 453), AV.v (Value.int IntKind.u16 454)], AV.agg [AV.v (Value.int IntKind.u16 454), AV.v (Value.int IntKind.u16 452)], AV.agg [AV.v (Value.int IntKind.u16 455), AV.v (Value.int IntKind.u16 456)], AV.agg [AV.v (Value.int IntKind.u16 456), AV.v (Value.int IntKind.u16 457)], AV.agg [AV.v (Value.int IntKind.u16 457), AV.v (Value.int IntKind.u16 455)], AV.agg [AV.v (Value.int IntKind.u16 458), AV.v (Value.int IntKind.u16 459)], AV.agg [AV.v (Value.int IntKind.u16 459), AV.v (Value.int IntKind.u16 460)], AV.agg [AV.v (Value.int IntKind.u16 460), AV.v (Value.int IntKind.u16 458)], AV.agg [AV.v (Value.int IntKind.u16 497), AV.v (Value.int IntKind.u16 498)], AV.agg [AV.v (Value.int IntKind.u16 498), AV.v (Value.int IntKind.u16 499)], AV.agg [AV.v (Value.int IntKind.u16 499), AV.v (Value.int IntKind.u16 497)], AV.agg [AV.v (Value.int IntKind.u16 837), AV.v (Value.int IntKind.u16 921)], AV.agg [AV.v (Value.int IntKind.u16 912), AV.v (Value.int IntKind.u16 8147)], AV.agg [AV.v (Value.int IntKind.u16 914), AV.v (Value.int IntKind.u16 946)], AV.agg [AV.v (Value.int IntKind.u16 917), AV.v (Value.int IntKind.u16 949)], AV.agg [AV.v (Value.int IntKind.u16 920), AV.v (Value.int IntKind.u16 952)], AV.agg [AV.v (Value.int IntKind.u16 921), AV.v (Value.int IntKind.u16 953)], AV.agg [AV.v (Value.int IntKind.u16 922), AV.v (Value.int IntKind.u16 954)], AV.agg [AV.v (Value.int IntKind.u16 924), AV.v (Value.int IntKind.u16 956)], AV.agg [AV.v (Value.int IntKind.u16 928), AV.v (Value.int IntKind.u16 960)], AV.agg [AV.v (Value.int IntKind.u16 929), AV.v (Value.int IntKind.u16 961)], AV.agg [AV.v (Value.int IntKind.u16 931), AV.v (Value.int IntKind.u16 962)], AV.agg [AV.v (Value.int IntKind.u16 934), AV.v (Value.int IntKind.u16 966)], AV.agg [AV.v (Value.int IntKind.u16 937), AV.v (Value.int IntKind.u16 969)], AV.agg [AV.v (Value.int IntKind.u16 944), AV.v (Value.int IntKind.u16 8163)], AV.agg [AV.v (Value.int IntKind.u16 946), AV.v (Value.int IntKind.u16 976)], AV.agg [AV.v (Value.int IntKind.u16 949), AV.v (Value.int IntKind.u16 1013)], AV.agg [AV.v (Value.int IntKind.u16 952), AV.v (Value.int IntKind.u16 977)], AV.agg [AV.v (Value.int IntKind.u16 953), AV.v (Value.int IntKind.u16 8126)], AV.agg [AV.v (Value.int IntKind.u16 954), AV.v (Value.int IntKind.u16 1008)], AV.agg [AV.v (Value.int IntKind.u16 956), AV.v (Value.int IntKind.u16 181)], AV.agg [AV.v (Value.int IntKind.u16 960), AV.v (Value.int IntKind.u16 982)], AV.agg [AV.v (Value.int IntKind.u16 961), AV.v (Value.int IntKind.u16 1009)], AV.agg [AV.v (Value.int IntKind.u16 962), AV.v (Value.int IntKind.u16 963)], AV.agg [AV.v (Value.int IntKind.u16 963), AV.v (Value.int IntKind.u16 931)], AV.agg [AV.v (Value.int IntKind.u16 966), AV.v (Value.int IntKind.u16 981)], AV.agg [AV.v (Value.int IntKind.u16 969), AV.v (Value.int IntKind.u16 8486)], AV.agg [AV.v (Value.int IntKind.u16 976), AV.v (Value.int IntKind.u16 914)], AV.agg [AV.v (Value.int IntKind.u16 977), AV.v (Value.int IntKind.u16 1012)], AV.agg [AV.v (Value.int IntKind.u16 981), AV.v (Value.int IntKind.u16 934)], AV.agg [AV.v (Value.int IntKind.u16 982), AV.v (Value.int IntKind.u16 928)], AV.agg [AV.v (Value.int IntKind.u16 1008), AV.v (Value.int IntKind.u16 922)], AV.agg [AV.v (Value.int IntKind.u16 1009), AV.v (Value.int IntKind.u16 929)], AV.agg [AV.v (Value.int IntKind.u16 1012), AV.v (Value.int IntKind.u16 920)], AV.agg [AV.v (Value.int IntKind.u16 1013), AV.v (Value.int IntKind.u16 917)], AV.agg [AV.v (Value.int IntKind.u16 1042), AV.v (Value.int IntKind.u16 1074)], AV.agg [AV.v (Value.int IntKind.u16 1044), AV.v (Value.int IntKind.u16 1076)], AV.agg [AV.v (Value.int IntKind.u16 1054), AV.v (Value.int IntKind.u16 1086)], AV.agg [AV.v (Value.int IntKind.u16 1057), AV.v (Value.int IntKind.u16 1089)], AV.agg [AV.v (Value.int IntKind.u16 1058), AV.v (Value.int IntKind.u16 1090)], AV.agg [AV.v (Value.int IntKind.u16 1066), AV.v (Value.int IntKind.u16 1098)], AV.agg [AV.v (Value.int IntKind.u16 1074), AV.v (Value.int IntKind.u16 7296)], AV.agg [AV.v (Value.int IntKind.u16 1076), AV.v (Value.int IntKind.u16 7297)], AV.agg [AV.v (Value.int IntKind.u16 1086), AV.v (Value.int IntKind.u16 7298)], AV.agg [AV.v (Value.int IntKind.u16 1089), AV.v (Value.int IntKind.u16 7299)], AV.agg [AV.v (Value.int IntKind.u16 1090), AV.v (Value.int IntKind.u16 7300)], AV.agg [AV.v (Value.int IntKind.u16 1098), AV.v (Value.int IntKind.u16 7302)], AV.agg [AV.v (Value.int IntKind.u16 1122), AV.v (Value.int IntKind.u16 1123)], AV.agg [AV.v (Value.int IntKind.u16 1123), AV.v (Value.int IntKind.u16 7303)], AV.agg [AV.v (Value.int IntKind.u16 7296), AV.v (Value.int IntKind.u16 1042)], AV.agg [AV.v (Value.int IntKind.u16 7297), AV.v (Value.int IntKind.u16 1044)], AV.agg [AV.v (Value.int IntKind.u16 7298), AV.v (Value.int IntKind.u16 1054)], AV.agg [AV.v (Value.int IntKind.u16 7299), AV.v (Value.int IntKind.u16 1057)], AV.agg [AV.v (Value.int IntKind.u16 7300), AV.v (Value.int IntKind.u16 7301)], AV.agg [AV.v (Value.int IntKind.u16 7301), AV.v (Value.int IntKind.u16 1058)], AV.agg [AV.v (Value.int IntKind.u16 7302), AV.v (Value.int IntKind.u16 1066)], AV.agg [AV.v (Value.int IntKind.u16 7303), AV.v (Value.int IntKind.u16 1122)], AV.agg [AV.v (Value.int IntKind.u16 7304), AV.v (Value.int IntKind.u16 42570)], AV.agg [AV.v (Value.int IntKind.u16 7776), AV.v (Value.int IntKind.u16 7777)], AV.agg [AV.v (Value.int IntKind.u16 7777), AV.v (Value.int IntKind.u16 7835)], AV.agg [AV.v (Value.int IntKind.u16 7835), AV.v (Value.int IntKind.u16 7776)], AV.agg [AV.v (Value.int IntKind.u16 7838), AV.v (Value.int IntKind.u16 223)], AV.agg [AV.v (Value.int IntKind.u16 8126), AV.v (Value.int IntKind.u16 837)], AV.agg [AV.v (Value.int IntKind.u16 8147), AV.v (Value.int IntKind.u16 912)], AV.agg [AV.v (Value.int IntKind.u16 8163), AV.v (Value.int IntKind.u16 944)], AV.agg [AV.v (Value.int IntKind.u16 8486), AV.v (Value.int IntKind.u16 937)], AV.agg [AV.v (Value.int IntKind.u16 8490), AV.v (Value.int IntKind.u16 75)], AV.agg [AV.v (Value.int IntKind.u16 8491), AV.v (Value.int IntKind.u16 197)], AV.agg [AV.v (Value.int IntKind.u16 42570), AV.v (Value.int IntKind.u16 42571)], AV.agg [AV.v (Value.int IntKind.u16 42571), AV.v (Value.int IntKind.u16 7304)], AV.agg [AV.v (Value.int IntKind.u16 64261), AV.v (Value.int IntKind.u16 64262)], AV.agg [AV.v (Value.int IntKind.u16 64262), AV.v (Value.int IntKind.u16 64261)]][(w64 ((IntKind.u64.wrap (w64 (lo3 + hi4))).fdiv 2)).toNat]?) fun wv1 =>
          Ab.asAgg wv1 2 fun wg2 =>
          Ab.asInt (wg2 0) .u16 fun wn3 =>
          Ab.asInt (wg2 1) .u16 fun wn4 =>
          br (decide (IntKind.i32.wrap wn3 < r0))
            (r (.s0 r0 (w64 (w64 ((IntKind.u64.wrap (w64 (lo3 + hi4))).fdiv 2) + 1)) hi4))
            (r (.s0 r0 lo3 (w64 ((IntKind.u64.wrap (w64 (lo3 + hi4))).fdiv 2)))))
          (none))
        (none))
      (d (.x0 r0 lo3))
theorem roundunicode_SimpleFold_0 (K : PureK) {β : Type} (r : Env → Heap → Option β) (k : Ex → Env → Heap → Option β) (s : Sunicode_SimpleFold_0) : tellOne X K 0 64 0 [(0, 1, 0), (1, 1, 0), (2, 1, 0)] 0 clunicode_SimpleFold_0 clounicode_SimpleFold_0 r k (Eunicode_SimpleFold_0 s) (Hunicode_SimpleFold_0 s) = Runicode_SimpleFold_0 K (Tunicode_SimpleFold_0 k) (fun s => r (Eunicode_SimpleFold_0 s) (Hunicode_SimpleFold_0 s)) s := by
  cases s <;> kernel_rfl
theorem Ounicode_SimpleFold_0.bind_k {β γ : Type} (o : Ounicode_SimpleFold_0) (c0 : Int → Int → Option β) (φ : β → Option γ) : (Ounicode_SimpleFold_0.k o c0).bind φ = Ounicode_SimpleFold_0.k o (fun r0 lo3 => (c0 r0 lo3).bind φ) := by cases o <;> rfl
theorem natunicode_SimpleFold_0 (K : PureK) {β γ : Type} (φ : β → Option γ) (d : Ounicode_SimpleFold_0 → Option β) (r : Sunicode_SimpleFold_0 → Option β) (s : Sunicode_SimpleFold_0) : Runicode_SimpleFold_0 K (fun o => (d o).bind φ) (fun s => (r s).bind φ) s = (Runicode_SimpleFold_0 K d r s).bind φ := by
  cases s <;> simp only [Runicode_SimpleFold_0, bind_optK, bind_br, bind_asInt, bind_asBool, bind_asStr, bind_asLst, bind_asAgg, bind_asTup, bind_asBig, bind_asErr, bind_none]
theorem outunicode_SimpleFold_0 (o : Ounicode_SimpleFold_0) : ∃ x e' h', ∀ {β : Type} (k : Ex → Env → Heap → Option β), Tunicode_SimpleFold_0 k o = k x e' h' := by cases o <;> exact ⟨_, _, _, fun _ => rfl⟩
theorem okunicode_SimpleFold_0 {K : PureK} (hX : Sound X) (hK : KOk X K) {lunicode_SimpleFold_0 : Sunicode_SimpleFold_0 → Option Ounicode_SimpleFold_0} (hl : ∀ s o, lunicode_SimpleFold_0 s = some o → ∃ m, fuelRec (Runicode_SimpleFold_0 K some) m s = some o) (β : Type) (e : Env) (h : Heap) (k : Ex → Env → Heap → Option β) (r : β) (hr : (Funicode_SimpleFold_0 lunicode_SimpleFold_0).run e h k = some r) : ∃ x e' h', k x e' h' = some r ∧ CodeAt X (.loop (loopBody (X).P 64 0)) e h x e' h' := by
  obtain ⟨fn, c, hin⟩ := loopIn_of (X := X) (f := 64) (i := 0) (key := 7) (by kernel_rfl)
  simp only [Funicode_SimpleFold_0] at hr
  split at hr
  · rename_i hlen
    have hlen := Nat.eq_of_beq_eq_true hlen
    split at hr
    · rename_i q0 q3 q4
      obtain ⟨o, ho, hr⟩ := optK_some hr
      refine tell_ok hX (KOk.congr (X := X) (Y := X) rfl rfl hK) hin (E := Eunicode_SimpleFold_0) (H := Hunicode_SimpleFold_0) (R := fun d r => Runicode_SimpleFold_0 K d r) (T := Tunicode_SimpleFold_0) (ts := [(0, 1, 0), (1, 1, 0), (2, 1, 0)]) (len := 0) (cl := clunicode_SimpleFold_0) (clo := clounicode_SimpleFold_0) (roundunicode_SimpleFold_0 K) (natunicode_SimpleFold_0 K) outunicode_SimpleFold_0 (hl _ _ ho) (cl0 := clunicode_SimpleFold_0) (ts0 := []) ?_ rfl (by kernel_rfl) (by kernel_rfl) hr
      rw [clear_lit e 80 hlen, show clearEnv clunicode_SimpleFold_0 ((List.range 80).map fun i => e.getD i .dead) = [e.getD 0 .dead, .dead, .dead, e.getD 3 .dead, e.getD 4 .dead, .dead, .dead, .dead, .dead, .dead, .dead, .dead, .dead, .dead, .dead, .dead, .dead, .dead, .dead, .dead, .dead, .dead, .dead, .dead, .dead, .dead, .dead, .dead, .dead, .dead, .dead, .dead, .dead, .dead, .dead, .dead, .dead, .dead, .dead, .dead, .dead, .dead, .dead, .dead, .dead, .dead, .dead, .dead, .dead, .dead, .dead, .dead, .dead, .dead, .dead, .dead, .dead, .dead, .dead, .dead, .dead, .dead, .dead, .dead, .dead, .dead, .dead, .dead, .dead, .dead, .dead, .dead, .dead, .dead, .dead, .dead, .dead, .dead, .dead, .dead] from by kernel_rfl]; rw [q0, q3, q4]
      kernel_rfl
    · cases hr
  · cases hr
noncomputable def Runicode_SimpleFold (K : PureK) (lunicode_SimpleFold_0 : Sunicode_SimpleFold_0 → Option Ounicode_SimpleFold_0) (r0 : Int) : Option AV :=
  optK (br (decide (r0 < 0))
        (some (bv true))
        (some (bv (decide (r0 > 1114111))))) fun wv5 =>
    Ab.asBool wv5 fun wb6 =>
    br wb6
      (some (rv r0))
      (br (decide (w64 r0 < 128))
        (br (decide (0 ≤ r0))
          (br (decide (r0 < 128))
            (optK (gl_unicode_asciiFold[0 + r0.toNat * 1]?) fun wv7 =>
            Ab.asInt wv7 .u16 fun wn8 =>
            some (rv (IntKind.i32.wrap wn8)))
            (none))
          (none))
        (optK (lunicode_SimpleFold_0 (Sunicode_SimpleFold_0.s0 r0 0 94)) fun wo9 => Ounicode_SimpleFold_0.k wo9 (fun (r0_10 : Int) (lo3_10 : Int) =>
        optK (br (decide (lo3_10 < 94))
            (br (decide (0 ≤ lo3_10))
              (br (decide (lo3_10 < 94))
                (optK ([AV.agg [AV.v (Value.int IntKind.u16 75), AV.v (Value.int IntKind.u16 107)], AV.agg [AV.v (Value.int IntKind.u16 83), AV.v (Value.int IntKind.u16 115)], AV.agg [AV.v (Value.int IntKind.u16 107), AV.v (Value.int IntKind.u16 8490)], AV.agg [AV.v (Value.int IntKind.u16 115), AV.v (Value.int IntKind.u16 383)], AV.agg [AV.v (Value.int IntKind.u16 181), AV.v (Value.int IntKind.u16 924)], AV.agg [AV.v (Value.int IntKind.u16 197), AV.v (Value.int IntKind.u16 229)], AV.agg [AV.v (Value.int IntKind.u16 223), AV.v (Value.int IntKind.u16 7838)], AV.agg [AV.v (Value.int IntKind.u16 229), AV.v (Value.int IntKind.u16 8491)], AV.agg [AV.v (Value.int IntKind.u16 304), AV.v (Value.int IntKind.u16 304)], AV.agg [AV.v (Value.int IntKind.u16 305), AV.v (Value.int IntKind.u16 305)], AV.agg [AV.v (Value.int IntKind.u16 383), AV.v (Value.int IntKind.u16 83)], AV.agg [AV.v (Value.int IntKind.u16 452), AV.v (Value.int IntKind.u16 453)], AV.agg [AV.v (Value.int IntKind.u16 453), AV.v (Value.int IntKind.u16 454)], AV.agg [AV.v (Value.int IntKind.u16 454), AV.v (Value.int IntKind.u16 452)], AV.agg [AV.v (Value.int IntKind.u16 455), AV.v (Value.int IntKind.u16 456)], AV.agg [AV.v (Value.int IntKind.u16 456), AV.v (Value.int IntKind.u16 457)], AV.agg [AV.v (Value.int IntKind.u16 457), AV.v (Value.int IntKind.u16 455)], AV.agg [AV.v (Value.int IntKind.u16 458), AV.v (Value.int IntKind.u16 459)], AV.agg [AV.v (Value.int IntKind.u16 459), AV.v (Value.int IntKind.u16 460)], AV.agg [AV.v (Value.int IntKind.u16 460), AV.v (Value.int IntKind.u16 458)], AV.agg [AV.v (Value.int IntKind.u16 497), AV.v (Value.int IntKind.u16 498)], AV.agg [AV.v (Value.int IntKind.u16 498), AV.v (Value.int IntKind.u16 499)], AV.agg [AV.v (Value.int IntKind.u16 499), AV.v (Value.int IntKind.u16 497)], AV.agg [AV.v (Value.int IntKind.u16 837), AV.v (Value.int IntKind.u16 921)], AV.agg [AV.v (Value.int IntKind.u16 912), AV.v (Value.int IntKind.u16 8147)], AV.agg [AV.v (Value.int IntKind.u16 914), AV.v (Value.int IntKind.u16 946)], AV.agg [AV.v (Value.int IntKind.u16 917), AV.v (Value.int IntKind.u16 949)], AV.agg [AV.v (Value.int IntKind.u16 920), AV.v (Value.int IntKind.u16 952)], AV.agg [AV.v (Value.int IntKind.u16 921), AV.v (Value.int IntKind.u16 953)], AV.agg [AV.v (Value.int IntKind.u16 922), AV.v (Value.int IntKind.u16 954)], AV.agg [AV.v (Value.int IntKind.u16 924), AV.v (Value.int IntKind.u16 956)], AV.agg [AV.v (Value.int IntKind.u16 928), AV.v (Value.int IntKind.u16 960)], AV.agg [AV.v (Value.int IntKind.u16 929), AV.v (Value.int IntKind.u16 961)], AV.agg [AV.v (Value.int IntKind.u16 931), AV.v (Value.int IntKind.u16 962)], AV.agg [AV.v (Value.int IntKind.u16 934), AV.v (Value.int IntKind.u16 966)], AV.agg [AV.v (Value.int IntKind.u16 937), AV.v (Value.int IntKind.u16 969)], AV.agg [AV.v (Value.int IntKind.u16 944), AV.v (Value.int IntKind.u16 8163)], AV.agg [AV.v (Value.int IntKind.u16 946), AV.v (Value.int IntKind.u16 976)], AV.agg [AV.v (Value.int IntKind.u16 949), AV.v (Value.int IntKind.u16 1013)], AV.agg [AV.v (Value.int IntKind.u16 952), AV.v (Value.int IntKind.u16 977)], AV.agg [AV.v (Value.int IntKind.u16 953), AV.v (Value.int IntKind.u16 8126)], AV.agg [AV.v (Value.int IntKind.u16 954), AV.v (Value.int IntKind.u16 1008)], AV.agg [AV.v (Value.int IntKind.u16 956), AV.v (Value.int IntKind.u16 181)], AV.agg [AV.v (Value.int IntKind.u16 960), AV.v (Value.int IntKind.u16 982)], AV.agg [AV.v (Value.int IntKind.u16 961), AV.v (Value.int IntKind.u16 1009)], AV.agg [AV.v (Value.int IntKind.u16 962), AV.v (Value.int IntKind.u16 963)], AV.agg [AV.v (Value.int IntKind.u16 963), AV.v (Value.int IntKind.u16 931)], AV.agg [AV.v (Value.int IntKind.u16 966), AV.v (Value.int IntKind.u16 981)], AV.agg [AV.v (Value.int IntKind.u16 969), AV.v (Value.int IntKind.u16 8486)], AV.agg [AV.v (Value.int IntKind.u16 976), AV.v (Value.int IntKind.u16 914)], AV.agg [AV.v (Value.int IntKind.u16 977), AV.v (Value.int IntKind.u16 1012)], AV.agg [AV.v (Value.int IntKind.u16 981), AV.v (Value.int IntKind.u16 934)], AV.agg [AV.v (Value.int IntKind.u16 982), AV.v (Value.int IntKind.u16 928)], AV.agg [AV.v (Value.int IntKind.u16 1008), AV.v (Value.int IntKind.u16 922)], AV.agg [AV.v (Value.int IntKind.u16 1009), AV.v (Value.int IntKind.u16 929)], AV.agg [AV.v (Value.int IntKind.u16 1012), AV.v (Value.int IntKind.u16 920)], AV.agg [AV.v (Value.int IntKind.u16 1013), AV.v (Value.int IntKind.u16 917)], AV.agg [AV.v (Value.int IntKind.u16 1042), AV.v (Value.int IntKind.u16 1074)], AV.agg [AV.v (Value.int IntKind.u16 1044), AV.v (Value.int IntKind.u16 1076)], AV.agg [AV.v (Value.int IntKind.u16 1054), AV.v (Value.int IntKind.u16 1086)], AV.agg [AV.v (Value.int IntKind.u16 1057), AV.v (Value.int IntKind.u16 1089)], AV.agg [AV.v (Value.int IntKind.u16 1058), AV.v (Value.int IntKind.u16 1090)], AV.agg [AV.v (Value.int IntKind.u16 1066), AV.v (Value.int IntKind.u16 1098)], AV.agg [AV.v (Value.int IntKind.u16 1074), AV.v (Value.int IntKind.u16 7296)], AV.agg [AV.v (Value.int IntKind.u16 1076), AV.v (Value.int IntKind.u16 7297)], AV.agg [AV.v (Value.int IntKind.u16 1086), AV.v (Value.int IntKind.u16 7298)], AV.agg [AV.v (Value.int IntKind.u16 1089), AV.v (Value.int IntKind.u16 7299)], AV.agg [AV.v (Value.int IntKind.u16 1090), AV.v (Value.int IntKind.u16 7300)], AV.agg [AV.v (Value.int IntKind.u16 1098), AV.v (Value.int IntKind.u16 7302)], AV.agg [AV.v (Value.int IntKind.u16 1122), AV.v (Value.int IntKind.u16 1123)], AV.agg [AV.v (Value.int IntKind.u16 1123), AV.v (Value.int IntKind.u16 7303)], AV.agg [AV.v (Value.int IntKind.u16 7296), AV.v (Value.int IntKind.u16 1042)], AV.agg [AV.v (Value.int IntKind.u16 7297), AV.v (Value.int IntKind.u16 1044)], AV.agg [AV.v (Value.int IntKind.u16 7298), AV.v (Value.int IntKind.u16 1054)], AV.agg [AV.v (Value.int IntKind.u16 7299), AV.v (Value.int IntKind.u16 1057)], AV.agg [AV.v (Value.int IntKind.u16 7300), AV.v (Value.int IntKind.u16 7301)], AV.agg [AV.v (Value.int IntKind.u16 7301), AV.v (Value.int IntKind.u16 1058)], AV.agg [AV.v (Value.int IntKind.u16 7302), AV.v (Value.int IntKind.u16 1066)], AV.agg [AV.v (Value.int IntKind.u16 7303), AV.v (Value.int IntKind.u16 1122)], AV.agg [AV.v (Value.int IntKind.u16 7304), AV.v (Value.int IntKind.u16 42570)], AV.agg [AV.v (Value.int IntKind.u16 7776), AV.v (Value.int IntKind.u16 7777)], AV.agg [AV.v (Value.int IntKind.u16 7777), AV.v (Value.int IntKind.u16 7835)], AV.agg [AV.v (Value.int IntKind.u16 7835), AV.v (Value.int IntKind.u16 7776)], AV.agg [AV.v (Value.int IntKind.u16 7838), AV.v (Value.int IntKind.u16 223)], AV.agg [AV.v (Value.int IntKind.u16 8126), AV.v (Value.int IntKind.u16 837)], AV.agg [AV.v (Value.int IntKind.u16 8147), AV.v (Value.int IntKind.u16 912)], AV.agg [AV.v (Value.int IntKind.u16 8163), AV.v (Value.int IntKind.u16 944)], AV.agg [AV.v (Value.int IntKind.u16 8486), AV.v (Value.int IntKind.u16 937)], AV.agg [AV.v (Value.int IntKind.u16 8490), AV.v (Value.int IntKind.u16 75)], AV.agg [AV.v (Value.int IntKind.u16 8491), AV.v (Value.int IntKind.u16 197)], AV.agg [AV.v (Value.int IntKind.u16 42570), AV.v (Value.int IntKind.u16 42571)], AV.agg [AV.v (Value.int IntKind.u16 42571), AV.v (Value.int IntKind.u16 7304)], AV.agg [AV.v (Value.int IntKind.u16 64261), AV.v (Value.int IntKind.u16 64262)], AV.agg [AV.v (Value.int IntKind.u16 64262), AV.v (Value.int IntKind.u16 64261)]][lo3_10.toNat]?) fun wv12 =>
                Ab.asAgg wv12 2 fun wg13 =>
                Ab.asInt (wg13 0) .u16 fun wn14 =>
                Ab.asInt (wg13 1) .u16 fun wn15 =>
                some (bv (IntKind.i32.wrap wn14 == r0_10)))
                (none))
              (none))
            (some (bv false))) fun wv11 =>
        Ab.asBool wv11 fun wb16 =>
        br wb16
          (br (decide (0 ≤ lo3_10))
            (br (decide (lo3_10 < 94))
              (optK ([AV.agg [AV.v (Value.int IntKind.u16 75), AV.v (Value.int IntKind.u16 107)], AV.agg [AV.v (Value.int IntKind.u16 83), AV.v (Value.int IntKind.u16 115)], AV.agg [AV.v (Value.int IntKind.u16 107), AV.v (Value.int IntKind.u16 8490)], AV.agg [AV.v (Value.int IntKind.u16 115), AV.v (Value.int IntKind.u16 383)], AV.agg [AV.v (Value.int IntKind.u16 181), AV.v (Value.int IntKind.u16 924)], AV.agg [AV.v (Value.int IntKind.u16 197), AV.v (Value.int IntKind.u16 229)], AV.agg [AV.v (Value.int IntKind.u16 223), AV.v (Value.int IntKind.u16 7838)], AV.agg [AV.v (Value.int IntKind.u16 229), AV.v (Value.int IntKind.u16 8491)], AV.agg [AV.v (Value.int IntKind.u16 304), AV.v (Value.int IntKind.u16 304)], AV.agg [AV.v (Value.int IntKind.u16 305), AV.v (Value.int IntKind.u16 305)], AV.agg [AV.v (Value.int IntKind.u16 383), AV.v (Value.int IntKind.u16 83)], AV.agg [AV.v (Value.int IntKind.u16 452), AV.v (Value.int IntKind.u16 453)], AV.agg [AV.v (Value.int IntKind.u16 453), AV.v (Value.int IntKind.u16 454)], AV.agg [AV.v (Value.int IntKind.u16 454), AV.v (Value.int IntKind.u16 452)], AV.agg [AV.v (Value.int IntKind.u16 455), AV.v (Value.int IntKind.u16 456)], AV.agg [AV.v (Value.int IntKind.u16 456), AV.v (Value.int IntKind.u16 457)], AV.agg [AV.v (Value.int IntKind.u16 457), AV.v (Value.int IntKind.u16 455)], AV.agg [AV.v (Value.int IntKind.u16 458), AV.v (Value.int IntKind.u16 459)], AV.agg [AV.v (Value.int IntKind.u16 459), AV.v (Value.int IntKind.u16 460)], AV.agg [AV.v (Value.int IntKind.u16 460), AV.v (Value.int IntKind.u16 458)], AV.agg [AV.v (Value.int IntKind.u16 497), AV.v (Value.int IntKind.u16 498)], AV.agg [AV.v (Value.int IntKind.u16 498), AV.v (Value.int IntKind.u16 499)], AV.agg [AV.v (Value.int IntKind.u16 499), AV.v (Value.int IntKind.u16 497)], AV.agg [AV.v (Value.int IntKind.u16 837), AV.v (Value.int IntKind.u16 921)], AV.agg [AV.v (Value.int IntKind.u16 912), AV.v (Value.int IntKind.u16 8147)], AV.agg [AV.v (Value.int IntKind.u16 914), AV.v (Value.int IntKind.u16 946)], AV.agg [AV.v (Value.int IntKind.u16 917), AV.v (Value.int IntKind.u16 949)], AV.agg [AV.v (Value.int IntKind.u16 920), AV.v (Value.int IntKind.u16 952)], AV.agg [AV.v (Value.int IntKind.u16 921), AV.v (Value.int IntKind.u16 953)], AV.agg [AV.v (Value.int IntKind.u16 922), AV.v (Value.int IntKind.u16 954)], AV.agg [AV.v (Value.int IntKind.u16 924), AV.v (Value.int IntKind.u16 956)], AV.agg [AV.v (Value.int IntKind.u16 928), AV.v (Value.int IntKind.u16 960)], AV.agg [AV.v (Value.int IntKind.u16 929), AV.v (Value.int IntKind.u16 961)], AV.agg [AV.v (Value.int IntKind.u16 931), AV.v (Value.int IntKind.u16 962)], AV.agg [AV.v (Value.int IntKind.u16 934), AV.v (Value.int IntKind.u16 966)], AV.agg [AV.v (Value.int IntKind.u16 937), AV.v (Value.int IntKind.u16 969)], AV.agg [AV.v (Value.int IntKind.u16 944), AV.v (Value.int IntKind.u16 8163)], AV.agg [AV.v (Value.int IntKind.u16 946), AV.v (Value.int IntKind.u16 976)], AV.agg [AV.v (Value.int IntKind.u16 949), AV.v (Value.int IntKind.u16 1013)], AV.agg [AV.v (Value.int IntKind.u16 952), AV.v (Value.int IntKind.u16 977)], AV.agg [AV.v (Value.int IntKind.u16 953), AV.v (Value.int IntKind.u16 8126)], AV.agg [AV.v (Value.int IntKind.u16 954), AV.v (Value.int IntKind.u16 1008)], AV.agg [AV.v (Value.int IntKind.u16 956), AV.v (Value.int IntKind.u16 181)], AV.agg [AV.v (Value.int IntKind.u16 960), AV.v (Value.int IntKind.u16 982)], AV.agg [AV.v (Value.int IntKind.u16 961), AV.v (Value.int IntKind.u16 1009)], AV.agg [AV.v (Value.int IntKind.u16 962), AV.v (Value.int IntKind.u16 963)], AV.agg [AV.v (Value.int IntKind.u16 963), AV.v (Value.int IntKind.u16 931)], AV.agg [AV.v (Value.int IntKind.u16 966), AV.v (Value.int IntKind.u16 981)], AV.agg [AV.v (Value.int IntKind.u16 969), AV.v (Value.int IntKind.u16 8486)], AV.agg [AV.v (Value.int IntKind.u16 976), AV.v (Value.int IntKind.u16 914)], AV.agg [AV.v (Value.int IntKind.u16 977), AV.v (Value.int IntKind.u16 1012)], AV.agg [AV.v (Value.int IntKind.u16 981), AV.v (Value.int IntKind.u16 934)], AV.agg [AV.v (Value.int IntKind.u16 982), AV.v (Value.int IntKind.u16 928)], AV.agg [AV.v (Value.int IntKind.u16 1008), AV.v (Value.int IntKind.u16 922)], AV.agg [AV.v (Value.int IntKind.u16 1009), AV.v (Value.int IntKind.u16 929)], AV.agg [AV.v (Value.int IntKind.u16 1012), AV.v (Value.int IntKind.u16 920)], AV.agg [AV.v (Value.int IntKind.u16 1013), AV.v (Value.int IntKind.u16 917)], AV.agg [AV.v (Value.int IntKind.u16 1042), AV.v (Value.int IntKind.u16 1074)], AV.agg [AV.v (Value.int IntKind.u16 1044), AV.v (Value.int IntKind.u16 1076)], AV.agg [AV.v (Value.int IntKind.u16 1054), AV.v (Value.int IntKind.u16 1086)], AV.agg [AV.v (Value.int IntKind.u16 1057), AV.v (Value.int IntKind.u16 1089)], AV.agg [AV.v (Value.int IntKind.u16 1058), AV.v (Value.int IntKind.u16 1090)], AV.agg [AV.v (Value.int IntKind.u16 1066), AV.v (Value.int IntKind.u16 1098)], AV.agg [AV.v (Value.int IntKind.u16 1074), AV.v (Value.int IntKind.u16 7296)], AV.agg [AV.v (Value.int IntKind.u16 1076), AV.v (Value.int IntKind.u16 7297)], AV.agg [AV.v (Value.int IntKind.u16 1086), AV.v (Value.int IntKind.u16 7298)], AV.agg [AV.v (Value.int IntKind.u16 1089), AV.v (Value.int IntKind.u16 7299)], AV.agg [AV.v (Value.int IntKind.u16 1090), AV.v (Value.int IntKind.u16 7300)], AV.agg [AV.v (Value.int IntKind.u16 1098), AV.v (Value.int IntKind.u16 7302)], AV.agg [AV.v (Value.int IntKind.u16 1122), AV.v (Value.int IntKind.u16 1123)], AV.agg [AV.v (Value.int IntKind.u16 1123), AV.v (Value.int IntKind.u16 7303)], AV.agg [AV.v (Value.int IntKind.u16 7296), AV.v (Value.int IntKind.u16 1042)], AV.agg [AV.v (Value.int IntKind.u16 7297), AV.v (Value.int IntKind.u16 1044)], AV.agg [AV.v (Value.int IntKind.u16 7298), AV.v (Value.int IntKind.u16 1054)], AV.agg [AV.v (Value.int IntKind.u16 7299), AV.v (Value.int IntKind.u16 1057)], AV.agg [AV.v (Value.int IntKind.u16 7300), AV.v (Value.int IntKind.u16 7301)], AV.agg [AV.v (Value.int IntKind.u16 7301), AV.v (Value.int IntKind.u16 1058)], AV.agg [AV.v (Value.int IntKind.u16 7302), AV.v (Value.int IntKind.u16 1066)], AV.agg [AV.v (Value.int IntKind.u16 7303), AV.v (Value.int IntKind.u16 1122)], AV.agg [AV.v (Value.int IntKind.u16 7304), AV.v (Value.int IntKind.u16 42570)], AV.agg [AV.v (Value.int IntKind.u16 7776), AV.v (Value.int IntKind.u16 7777)], AV.agg [AV.v (Value.int IntKind.u16 7777), AV.v (Value.int IntKind.u16 7835)], AV.agg [AV.v (Value.int IntKind.u16 7835), AV.v (Value.int IntKind.u16 7776)], AV.agg [AV.v (Value.int IntKind.u16 7838), AV.v (Value.int IntKind.u16 223)], AV.agg [AV.v (Value.int IntKind.u16 8126), AV.v (Value.int IntKind.u16 837)], AV.agg [AV.v (Value.int IntKind.u16 8147), AV.v (Value.int IntKind.u16 912)], AV.agg [AV.v (Value.int IntKind.u16 8163), AV.v (Value.int IntKind.u16 944)], AV.agg [AV.v (Value.int IntKind.u16 8486), AV.v (Value.int IntKind.u16 937)], AV.agg [AV.v (Value.int IntKind.u16 8490), AV.v (Value.int IntKind.u16 75)], AV.agg [AV.v (Value.int IntKind.u16 8491), AV.v (Value.int IntKind.u16 197)], AV.agg [AV.v (Value.int IntKind.u16 42570), AV.v (Value.int IntKind.u16 42571)], AV.agg [AV.v (Value.int IntKind.u16 42571), AV.v (Value.int IntKind.u16 7304)], AV.agg [AV.v (Value.int IntKind.u16 64261), AV.v (Value.int IntKind.u16 64262)], AV.agg [AV.v (Value.int IntKind.u16 64262), AV.v (Value.int IntKind.u16 64261)]][lo3_10.toNat]?) fun wv17 =>
              Ab.asAgg wv17 2 fun wg18 =>
              Ab.asInt (wg18 0) .u16 fun wn19 =>
              Ab.asInt (wg18 1) .u16 fun wn20 =>
              some (rv (IntKind.i32.wrap wn20)))
              (none))
            (none))
          (none))))
theorem topunicode_SimpleFold (K : PureK) (lunicode_SimpleFold_0 : Sunicode_SimpleFold_0 → Option Ounicode_SimpleFold_0) (r0 : Int) : topK (addLp X 64 7 (Funicode_SimpleFold_0 lunicode_SimpleFold_0)) K 0 f_unicode_SimpleFold [(.v (.int .i32 r0))] = Runicode_SimpleFold K lunicode_SimpleFold_0 r0 := by kernel_rfl
theorem pcunicode_SimpleFold {K : PureK} (hK : KOk X K) {lunicode_SimpleFold_0 : Sunicode_SimpleFold_0 → Option Ounicode_SimpleFold_0} (hunicode_SimpleFold_0 : ∀ s o, lunicode_SimpleFold_0 s = some o → ∃ m, fuelRec (Runicode_SimpleFold_0 K some) m s = some o) {r0 : Int} {v : AV} (h : Runicode_SimpleFold K lunicode_SimpleFold_0 r0 = some v) : PureCall X f_unicode_SimpleFold [(.v (.int .i32 r0))] v := by
  have hSo0 := soundX
  obtain ⟨_, _, hin0⟩ := loopIn_of (X := X) (f := 64) (i := 0) (key := 7) (by kernel_rfl)
  have hSo1 := sound_add hSo0 hin0 (okunicode_SimpleFold_0 hSo0 hK hunicode_SimpleFold_0)
  exact tell_top (X := X) (Y := (addLp X 64 7 (Funicode_SimpleFold_0 lunicode_SimpleFold_0))) rfl rfl hSo1 hK ((topunicode_SimpleFold K lunicode_SimpleFold_0 r0).trans h)

/-! 63: unicode/utf8.DecodeRuneInString -/
noncomputable def Rutf8_DecodeRuneInString (K : PureK) (s0 : ByteArray) : Option AV :=
  optK (br (!strEq s0 ({ data := #[] } : ByteArray))
        (br (decide (0 < ((s0.size : Nat) : Int)))
          (some (bv (decide (bt s0 0 < 128))))
          (none))
        (some (bv false))) fun wv1 =>
    Ab.asBool wv1 fun wb2 =>
    br wb2
      (br (decide (0 < ((s0.size : Nat) : Int)))
        (some (AV.tup [rv (IntKind.i32.wrap (bt s0 0)), iv 1]))
        (none))
      (optK (K f_utf8_decodeRuneInStringSlow [sv s0]) fun wv3 =>
      Ab.asTup wv3 2 fun wg4 =>
      Ab.asInt (wg4 0) .i32 fun wn5 =>
      Ab.asInt (wg4 1) .i64 fun wn6 =>
      some (AV.tup [rv wn5, iv wn6]))
theorem toputf8_DecodeRuneInString (K : PureK) (s0 : ByteArray) : topK X K 0 f_utf8_DecodeRuneInString [(.v (.string s0))] = Rutf8_DecodeRuneInString K s0 := by kernel_rfl
theorem pcutf8_DecodeRuneInString {K : PureK} (hK : KOk X K) {s0 : ByteArray} {v : AV} (h : Rutf8_DecodeRuneInString K s0 = some v) : PureCall X f_utf8_DecodeRuneInString [(.v (.string s0))] v := by
  have hSo0 := soundX
  exact tell_top (X := X) (Y := X) rfl rfl hSo0 hK ((toputf8_DecodeRuneInString K s0).trans h)

/-! 79: unicode/utf8.decodeRuneInStringSlow -/
noncomputable def Rutf8_decodeRuneInStringSlow (K : PureK) (s0 : ByteArray) : Option AV :=
  br (decide (((s0.size : Nat) : Int) < 1))
      (some (AV.tup [rv 65533, iv 0]))
      (br (decide (0 < ((s0.size : Nat) : Int)))
        (br (decide (bt s0 0 < 256))
          (optK (gl_utf8_first[0 + (bt s0 0).toNat * 1]?) fun wv1 =>
          Ab.asInt wv1 .u8 fun wn2 =>
          br (decide (wn2 ≥ 240))
            (br (decide (0 < ((s0.size : Nat) : Int)))
              (some (AV.tup [rv (IntKind.i32.wrap ((((BitVec.ofInt 32 (IntKind.i32.wrap ((((BitVec.ofInt 32 (IntKind.i32.wrap (bt s0 0)) &&& ~~~BitVec.ofInt 32 ((IntKind.i32.wrap (IntKind.i32.wrap wn2 * 2147483648)).fdiv 2147483648)).toNat : Nat) : Int))) ||| BitVec.ofInt 32 (IntKind.i32.wrap ((((BitVec.ofInt 32 65533 &&& BitVec.ofInt 32 ((IntKind.i32.wrap (IntKind.i32.wrap wn2 * 2147483648)).fdiv 2147483648)).toNat : Nat) : Int)))).toNat : Nat) : Int))), iv 1]))
              (none))
            (br (decide (0 ≤ wn2.fdiv 16))
              (br (decide (wn2.fdiv 16 < 16))
                (br ((0 + (wn2.fdiv 16).toNat * 2 + 2).ble 32)
                  (br (fits Tryz.prog 106 (AV.agg (List.take 2 (List.drop (0 + (wn2.fdiv 16).toNat * 2) gl_utf8_acceptRanges))) && (true || refFree (AV.agg (List.take 2 (List.drop (0 + (wn2.fdiv 16).toNat * 2) gl_utf8_acceptRanges)))))
                    (br (decide (((s0.size : Nat) : Int) < w64 (w8 ((((BitVec.ofInt 8 wn2 &&& BitVec.ofInt 8 7).toNat : Nat) : Int)))))
                      (some (AV.tup [rv 65533, iv 1]))
                      (br (decide (1 < ((s0.size : Nat) : Int)))
                        (optK (optK ((List.take 2 (List.drop (0 + (wn2.fdiv 16).toNat * 2) gl_utf8_acceptRanges))[0]?) fun wv4 =>
                          Ab.asInt wv4 .u8 fun wn5 =>
                          br (decide (bt s0 1 < wn5))
                            (some (bv true))
                            (optK ((List.take 2 (List.drop (0 + (wn2.fdiv 16).toNat * 2) gl_utf8_acceptRanges))[1]?) fun wv6 =>
                            Ab.asInt wv6 .u8 fun wn7 =>
                            some (bv (decide (wn7 < bt s0 1))))) fun wv3 =>
                        Ab.asBool wv3 fun wb8 =>
                        br wb8
                          (some (AV.tup [rv 65533, iv 1]))
                          (br (decide (w64 (w8 ((((BitVec.ofInt 8 wn2 &&& BitVec.ofInt 8 7).toNat : Nat) : Int))) ≤ 2))
                            (some (AV.tup [rv (IntKind.i32.wrap ((((BitVec.ofInt 32 (IntKind.i32.wrap (IntKind.i32.wrap (w8 ((((BitVec.ofInt 8 (bt s0 0) &&& BitVec.ofInt 8 31).toNat : Nat) : Int))) * 64)) ||| BitVec.ofInt 32 (IntKind.i32.wrap (w8 ((((BitVec.ofInt 8 (bt s0 1) &&& BitVec.ofInt 8 63).toNat : Nat) : Int))))).toNat : Nat) : Int))), iv 2]))
                            (br (decide (2 < ((s0.size : Nat) : Int)))
                              (optK (br (decide (bt s0 2 < 128))
                                  (some (bv true))
                                  (some (bv (decide (191 < bt s0 2))))) fun wv9 =>
                              Ab.asBool wv9 fun wb10 =>
                              br wb10
                                (some (AV.tup [rv 65533, iv 1]))
                                (br (decide (w64 (w8 ((((BitVec.ofInt 8 wn2 &&& BitVec.ofInt 8 7).toNat : Nat) : Int))) ≤ 3))
                                  (some (AV.tup [rv (IntKind.i32.wrap ((((BitVec.ofInt 32 (IntKind.i32.wrap ((((BitVec.ofInt 32 (IntKind.i32.wrap (IntKind.i32.wrap (w8 ((((BitVec.ofInt 8 (bt s0 0) &&& BitVec.ofInt 8 15).toNat : Nat) : Int))) * 4096)) ||| BitVec.ofInt 32 (IntKind.i32.wrap (IntKind.i32.wrap (w8 ((((BitVec.ofInt 8 (bt s0 1) &&& BitVec.ofInt 8 63).toNat : Nat) : Int))) * 64))).toNat : Nat) : Int))) ||| BitVec.ofInt 32 (IntKind.i32.wrap (w8 ((((BitVec.ofInt 8 (bt s0 2) &&& BitVec.ofInt 8 63).toNat : Nat) : Int))))).toNat : Nat) : Int))), iv 3]))
                                  (br (decide (3 < ((s0.size : Nat) : Int)))
                                    (optK (br (decide (bt s0 3 < 128))
                                        (some (bv true))
                                        (some (bv (decide (191 < bt s0 3))))) fun wv11 =>
                                    Ab.asBool wv11 fun wb12 =>
                                    br wb12
                                      (some (AV.tup [rv 65533, iv 1]))
                                      (some (AV.tup [rv (IntKind.i32.wrap ((((BitVec.ofInt 32 (IntKind.i32.wrap ((((BitVec.ofInt 32 (IntKind.i32.wrap ((((BitVec.ofInt 32 (IntKind.i32.wrap (IntKind.i32.wrap (w8 ((((BitVec.ofInt 8 (bt s0 0) &&& BitVec.ofInt 8 7).toNat : Nat) : Int))) * 262144)) ||| BitVec.ofInt 32 (IntKind.i32.wrap (IntKind.i32.wrap (w8 ((((BitVec.ofInt 8 (bt s0 1) &&& BitVec.ofInt 8 63).toNat : Nat) : Int))) * 4096))).toNat : Nat) : Int))) ||| BitVec.ofInt 32 (IntKind.i32.wrap (IntKind.i32.wrap (w8 ((((BitVec.ofInt 8 (bt s0 2) &&& BitVec.ofInt 8 63).toNat : Nat) : Int))) * 64))).toNat : Nat) : Int))) ||| BitVec.ofInt 32 (IntKind.i32.wrap (w8 ((((BitVec.ofInt 8 (bt s0 3) &&& BitVec.ofInt 8 63).toNat : Nat) : Int))))).toNat : Nat) : Int))), iv 4])))
                                    (none))))
                              (none))))
                        (none)))
                    (none))
                  (none))
                (none))
              (none)))
          (none))
        (none))
theorem toputf8_decodeRuneInStringSlow (K : PureK) (s0 : ByteArray) : topK X K 0 f_utf8_decodeRuneInStringSlow [(.v (.string s0))] = Rutf8_decodeRuneInStringSlow K s0 := by kernel_rfl
theorem pcutf8_decodeRuneInStringSlow {K : PureK} (hK : KOk X K) {s0 : ByteArray} {v : AV} (h : Rutf8_decodeRuneInStringSlow K s0 = some v) : PureCall X f_utf8_decodeRuneInStringSlow [(.v (.string s0))] v := by
  have hSo0 := soundX
  exact tell_top (X := X) (Y := X) rfl rfl hSo0 hK ((toputf8_decodeRuneInStringSlow K s0).trans h)


/-! 56: escheat/date.leap -/
noncomputable def Rdate_leap (K : PureK) (y0 : Int) : Option AV :=
  optK (br (y0.tmod 4 == 0)
        (br (y0.tmod 100 != 0)
          (some (bv true))
          (some (bv (y0.tmod 400 == 0))))
        (some (bv (y0.tmod 400 == 0)))) fun wv1 =>
    Ab.asBool wv1 fun wb2 =>
    some (bv wb2)
theorem topdate_leap (K : PureK) (y0 : Int) : topK X K 0 f_date_leap [(.v (.int .i64 y0))] = Rdate_leap K y0 := by kernel_rfl
theorem pcdate_leap {K : PureK} (hK : KOk X K) {y0 : Int} {v : AV} (h : Rdate_leap K y0 = some v) : PureCall X f_date_leap [(.v (.int .i64 y0))] v := by
  have hSo0 := soundX
  exact tell_top (X := X) (Y := X) rfl rfl hSo0 hK ((topdate_leap K y0).trans h)

/-! 55: escheat/date.leaps -/
noncomputable def Rdate_leaps (K : PureK) (y0 : Int) : Option AV :=
  br (y0 == 0)
      (some (iv 0))
      (some (iv (w64 (w64 (w64 (w64 ((w64 (y0 - 1)).tdiv 4) - w64 ((w64 (y0 - 1)).tdiv 100)) + w64 ((w64 (y0 - 1)).tdiv 400)) + 1))))
theorem topdate_leaps (K : PureK) (y0 : Int) : topK X K 0 f_date_leaps [(.v (.int .i64 y0))] = Rdate_leaps K y0 := by kernel_rfl
theorem pcdate_leaps {K : PureK} (hK : KOk X K) {y0 : Int} {v : AV} (h : Rdate_leaps K y0 = some v) : PureCall X f_date_leaps [(.v (.int .i64 y0))] v := by
  have hSo0 := soundX
  exact tell_top (X := X) (Y := X) rfl rfl hSo0 hK ((topdate_leaps K y0).trans h)

/-! 39: escheat/date.count -/
noncomputable def Rdate_count (K : PureK) (y0 : Int) (m1 : Int) (d2 : Int) : Option AV :=
  optK (K f_date_leaps [iv y0]) fun wv1 =>
    Ab.asInt wv1 .i64 fun wn2 =>
    optK (K f_date_leaps [iv 1970]) fun wv3 =>
    Ab.asInt wv3 .i64 fun wn4 =>
    br (decide (0 ≤ w64 (m1 - 1)))
      (br (decide (w64 (m1 - 1) < 13))
        (optK (gl_date_ahead[0 + (w64 (m1 - 1)).toNat * 1]?) fun wv5 =>
        Ab.asInt wv5 .i64 fun wn6 =>
        optK (br (decide (m1 > 2))
            (optK (K f_date_leap [iv y0]) fun wv8 =>
            Ab.asBool wv8 fun wb9 =>
            some (bv wb9))
            (some (bv false))) fun wv7 =>
        Ab.asBool wv7 fun wb10 =>
        br wb10
          (some (iv (w64 (w64 (w64 (w64 (w64 (w64 (w64 (w64 (y0 - 1970) * 365) + wn2) - wn4) + wn6) + d2) - 1) + 1))))
          (some (iv (w64 (w64 (w64 (w64 (w64 (w64 (w64 (y0 - 1970) * 365) + wn2) - wn4) + wn6) + d2) - 1)))))
        (none))
      (none)
theorem topdate_count (K : PureK) (y0 : Int) (m1 : Int) (d2 : Int) : topK X K 0 f_date_count [(.v (.int .i64 y0)), (.v (.int .i64 m1)), (.v (.int .i64 d2))] = Rdate_count K y0 m1 d2 := by kernel_rfl
theorem pcdate_count {K : PureK} (hK : KOk X K) {y0 : Int} {m1 : Int} {d2 : Int} {v : AV} (h : Rdate_count K y0 m1 d2 = some v) : PureCall X f_date_count [(.v (.int .i64 y0)), (.v (.int .i64 m1)), (.v (.int .i64 d2))] v := by
  have hSo0 := soundX
  exact tell_top (X := X) (Y := X) rfl rfl hSo0 hK ((topdate_count K y0 m1 d2).trans h)

/-! 58: escheat/date.days -/
noncomputable def Rdate_days (K : PureK) (y0 : Int) (m1 : Int) : Option AV :=
  br (decide (0 ≤ m1))
      (br (decide (m1 < 13))
        (optK (gl_date_ahead[0 + m1.toNat * 1]?) fun wv1 =>
        Ab.asInt wv1 .i64 fun wn2 =>
        br (decide (0 ≤ w64 (m1 - 1)))
          (br (decide (w64 (m1 - 1) < 13))
            (optK (gl_date_ahead[0 + (w64 (m1 - 1)).toNat * 1]?) fun wv3 =>
            Ab.asInt wv3 .i64 fun wn4 =>
            optK (br (m1 == 2)
                (optK (K f_date_leap [iv y0]) fun wv6 =>
                Ab.asBool wv6 fun wb7 =>
                some (bv wb7))
                (some (bv false))) fun wv5 =>
            Ab.asBool wv5 fun wb8 =>
            br wb8
              (some (iv (w64 (w64 (wn2 - wn4) + 1))))
              (some (iv (w64 (wn2 - wn4)))))
            (none))
          (none))
        (none))
      (none)
theorem topdate_days (K : PureK) (y0 : Int) (m1 : Int) : topK X K 0 f_date_days [(.v (.int .i64 y0)), (.v (.int .i64 m1))] = Rdate_days K y0 m1 := by kernel_rfl
theorem pcdate_days {K : PureK} (hK : KOk X K) {y0 : Int} {m1 : Int} {v : AV} (h : Rdate_days K y0 m1 = some v) : PureCall X f_date_days [(.v (.int .i64 y0)), (.v (.int .i64 m1))] v := by
  have hSo0 := soundX
  exact tell_top (X := X) (Y := X) rfl rfl hSo0 hK ((topdate_days K y0 m1).trans h)

/-! 42: escheat/date.there -/
noncomputable def Rdate_there (K : PureK) (y0 : Int) (m1 : Int) (d2 : Int) : Option AV :=
  optK (br (decide (y0 ≥ 0))
        (br (decide (y0 ≤ 9999))
          (br (decide (m1 ≥ 1))
            (br (decide (m1 ≤ 12))
              (br (decide (d2 ≥ 1))
                (optK (K f_date_days [iv y0, iv m1]) fun wv2 =>
                Ab.asInt wv2 .i64 fun wn3 =>
                some (bv (decide (d2 ≤ wn3))))
                (some (bv false)))
              (some (bv false)))
            (some (bv false)))
          (some (bv false)))
        (some (bv false))) fun wv1 =>
    Ab.asBool wv1 fun wb4 =>
    some (bv wb4)
theorem topdate_there (K : PureK) (y0 : Int) (m1 : Int) (d2 : Int) : topK X K 0 f_date_there [(.v (.int .i64 y0)), (.v (.int .i64 m1)), (.v (.int .i64 d2))] = Rdate_there K y0 m1 d2 := by kernel_rfl
theorem pcdate_there {K : PureK} (hK : KOk X K) {y0 : Int} {m1 : Int} {d2 : Int} {v : AV} (h : Rdate_there K y0 m1 d2 = some v) : PureCall X f_date_there [(.v (.int .i64 y0)), (.v (.int .i64 m1)), (.v (.int .i64 d2))] v := by
  have hSo0 := soundX
  exact tell_top (X := X) (Y := X) rfl rfl hSo0 hK ((topdate_there K y0 m1 d2).trans h)

/-! 16: escheat/date.Civil -/
inductive Sdate_Civil_0 where
  | s0 (day0 : Int) (year2 : Int)

inductive Odate_Civil_0 where
  | x0 (day0 : Int) (year2 : Int)

def Odate_Civil_0.k {β : Type} (o : Odate_Civil_0) (c0 : Int → Int → Option β) : Option β := match o with
  | .x0 day0 year2 => c0 day0 year2

def Edate_Civil_0 : Sdate_Civil_0 → Env
  | .s0 day0 year2 => [(.v (.int .i64 day0)), .dead, (.v (.int .i64 year2)), .dead, .dead, .dead, .dead, .dead, .dead, .dead, .dead, .dead, .dead, .dead, .dead, .dead, .dead, .dead, .dead, .dead, .dead, .dead, .dead, .dead, .dead, .dead, .dead, .dead, .dead, .dead, .dead, .dead, .dead, .dead, .dead, .dead, .dead, .dead, .dead, .dead, .dead, .dead, .dead, .dead, .dead]

def Hdate_Civil_0 : Sdate_Civil_0 → Heap
  | .s0 day0 year2 => []

def Tdate_Civil_0 {β : Type} (k : Ex → Env → Heap → Option β) (o : Odate_Civil_0) : Option β := Odate_Civil_0.k o (fun day0 year2 => k (.exit 0) [(.v (.int .i64 day0)), .dead, (.v (.int .i64 year2)), .dead, .dead, .dead, .dead, .dead, .dead, .dead, .dead, .dead, .dead, .dead, .dead, .dead, .dead, .dead, .dead, .dead, .dead, .dead, .dead, .dead, .dead, .dead, .dead, .dead, .dead, .dead, .dead, .dead, .dead, .dead, .dead, .dead, .dead, .dead, .dead, .dead, .dead, .dead, .dead, .dead, .dead] [])

def Fdate_Civil_0 (ldate_Civil_0 : Sdate_Civil_0 → Option Odate_Civil_0) : LoopF := ⟨fun e h k => match Nat.beq e.length 45 with
  | true => (match e.getD 0 .dead, e.getD 2 .dead, h with
    | (.v (.int .i64 day0)), (.v (.int .i64 year2)), [] => optK (ldate_Civil_0 (.s0 day0 year2)) (Tdate_Civil_0 k)
    | _, _, _ => none)
  | false => none⟩

def cldate_Civil_0 : List Tmp := [1, 3, 4, 5, 6, 7, 8, 9, 10, 11, 12, 13, 14, 15, 16, 17, 18, 19, 20, 21, 22, 23, 24, 25, 26, 27, 28, 29, 30, 31, 32, 33, 34, 35, 36, 37, 38, 39, 40, 41, 42, 43, 44]
def clodate_Civil_0 : List Tmp := [1, 3, 4, 5, 6, 7, 8, 9, 10, 11, 12, 13, 14, 15, 16, 17, 18, 19, 20, 21, 22, 23, 24, 25, 26, 27, 28, 29, 30, 31, 32, 33, 34, 35, 36, 37, 38, 39, 40, 41, 42, 43, 44]

noncomputable def Rdate_Civil_0 {β : Type} (K : PureK) (d : Odate_Civil_0 → Option β) (r : Sdate_Civil_0 → Option β) : Sdate_Civil_0 → Option β
  | .s0 day0 year2 =>
    optK (br (decide (year2 < 9999))
        (optK (K f_date_count [iv (w64 (year2 + 1)), iv 1, iv 1]) fun wv2 =>
        Ab.asInt wv2 .i64 fun wn3 =>
        some (bv (decide (wn3 ≤ day0))))
        (some (bv false))) fun wv1 =>
    Ab.asBool wv1 fun wb4 =>
    br wb4
      (r (.s0 day0 (w64 (year2 + 1))))
      (d (.x0 day0 year2))
theorem rounddate_Civil_0 (K : PureK) {β : Type} (r : Env → Heap → Option β) (k : Ex → Env → Heap → Option β) (s : Sdate_Civil_0) : tellOne X K 0 16 0 [(0, 1, 0), (1, 1, 0), (2, 1, 0)] 0 cldate_Civil_0 clodate_Civil_0 r k (Edate_Civil_0 s) (Hdate_Civil_0 s) = Rdate_Civil_0 K (Tdate_Civil_0 k) (fun s => r (Edate_Civil_0 s) (Hdate_Civil_0 s)) s := by
  cases s <;> kernel_rfl
theorem Odate_Civil_0.bind_k {β γ : Type} (o : Odate_Civil_0) (c0 : Int → Int → Option β) (φ : β → Option γ) : (Odate_Civil_0.k o c0).bind φ = Odate_Civil_0.k o (fun day0 year2 => (c0 day0 year2).bind φ) := by cases o <;> rfl
theorem natdate_Civil_0 (K : PureK) {β γ : Type} (φ : β → Option γ) (d : Odate_Civil_0 → Option β) (r : Sdate_Civil_0 → Option β) (s : Sdate_Civil_0) : Rdate_Civil_0 K (fun o => (d o).bind φ) (fun s => (r s).bind φ) s = (Rdate_Civil_0 K d r s).bind φ := by
  cases s <;> simp only [Rdate_Civil_0, bind_optK, bind_br, bind_asInt, bind_asBool, bind_asStr, bind_asLst, bind_asAgg, bind_asTup, bind_asBig, bind_asErr, bind_none]
theorem outdate_Civil_0 (o : Odate_Civil_0) : ∃ x e' h', ∀ {β : Type} (k : Ex → Env → Heap → Option β), Tdate_Civil_0 k o = k x e' h' := by cases o <;> exact ⟨_, _, _, fun _ => rfl⟩
theorem okdate_Civil_0 {K : PureK} (hX : Sound X) (hK : KOk X K) {ldate_Civil_0 : Sdate_Civil_0 → Option Odate_Civil_0} (hl : ∀ s o, ldate_Civil_0 s = some o → ∃ m, fuelRec (Rdate_Civil_0 K some) m s = some o) (β : Type) (e : Env) (h : Heap) (k : Ex → Env → Heap → Option β) (r : β) (hr : (Fdate_Civil_0 ldate_Civil_0).run e h k = some r) : ∃ x e' h', k x e' h' = some r ∧ CodeAt X (.loop (loopBody (X).P 16 0)) e h x e' h' := by
  obtain ⟨fn, c, hin⟩ := loopIn_of (X := X) (f := 16) (i := 0) (key := 4) (by kernel_rfl)
  simp only [Fdate_Civil_0] at hr
  split at hr
  · rename_i hlen
    have hlen := Nat.eq_of_beq_eq_true hlen
    split at hr
    · rename_i q0 q2
      obtain ⟨o, ho, hr⟩ := optK_some hr
      refine tell_ok hX (KOk.congr (X := X) (Y := X) rfl rfl hK) hin (E := Edate_Civil_0) (H := Hdate_Civil_0) (R := fun d r => Rdate_Civil_0 K d r) (T := Tdate_Civil_0) (ts := [(0, 1, 0), (1, 1, 0), (2, 1, 0)]) (len := 0) (cl := cldate_Civil_0) (clo := clodate_Civil_0) (rounddate_Civil_0 K) (natdate_Civil_0 K) outdate_Civil_0 (hl _ _ ho) (cl0 := cldate_Civil_0) (ts0 := []) ?_ rfl (by kernel_rfl) (by kernel_rfl) hr
      rw [clear_lit e 45 hlen, show clearEnv cldate_Civil_0 ((List.range 45).map fun i => e.getD i .dead) = [e.getD 0 .dead, .dead, e.getD 2 .dead, .dead, .dead, .dead, .dead, .dead, .dead, .dead, .dead, .dead, .dead, .dead, .dead, .dead, .dead, .dead, .dead, .dead, .dead, .dead, .dead, .dead, .dead, .dead, .dead, .dead, .dead, .dead, .dead, .dead, .dead, .dead, .dead, .dead, .dead, .dead, .dead, .dead, .dead, .dead, .dead, .dead, .dead] from by kernel_rfl]; rw [q0, q2]
      kernel_rfl
    · cases hr
  · cases hr
inductive Sdate_Civil_1 where
  | s0 (day0 : Int) (year2 : Int) (month3 : Int)

inductive Odate_Civil_1 where
  | x0 (day0 : Int) (year2 : Int) (month3 : Int)

def Odate_Civil_1.k {β : Type} (o : Odate_Civil_1) (c0 : Int → Int → Int → Option β) : Option β := match o with
  | .x0 day0 year2 month3 => c0 day0 year2 month3

def Edate_Civil_1 : Sdate_Civil_1 → Env
  | .s0 day0 year2 month3 => [(.v (.int .i64 day0)), .dead, (.v (.int .i64 year2)), (.v (.int .i64 month3)), .dead, .dead, .dead, .dead, .dead, .dead, .dead, .dead, .dead, .dead, .dead, .dead, .dead, .dead, .dead, .dead, .dead, .dead, .dead, .dead, .dead, .dead, .dead, .dead, .dead, .dead, .dead, .dead, .dead, .dead, .dead, .dead, .dead, .dead, .dead, .dead, .dead, .dead, .dead, .dead, .dead]

def Hdate_Civil_1 : Sdate_Civil_1 → Heap
  | .s0 day0 year2 month3 => []

def Tdate_Civil_1 {β : Type} (k : Ex → Env → Heap → Option β) (o : Odate_Civil_1) : Option β := Odate_Civil_1.k o (fun day0 year2 month3 => k (.exit 2) [(.v (.int .i64 day0)), .dead, (.v (.int .i64 year2)), (.v (.int .i64 month3)), .dead, .dead, .dead, .dead, .dead, .dead, .dead, .dead, .dead, .dead, .dead, .dead, .dead, .dead, .dead, .dead, .dead, .dead, .dead, .dead, .dead, .dead, .dead, .dead, .dead, .dead, .dead, .dead, .dead, .dead, .dead, .dead, .dead, .dead, .dead, .dead, .dead, .dead, .dead, .dead, .dead] [])

def Fdate_Civil_1 (ldate_Civil_1 : Sdate_Civil_1 → Option Odate_Civil_1) : LoopF := ⟨fun e h k => match Nat.beq e.length 45 with
  | true => (match e.getD 0 .dead, e.getD 2 .dead, e.getD 3 .dead, h with
    | (.v (.int .i64 day0)), (.v (.int .i64 year2)), (.v (.int .i64 month3)), [] => optK (ldate_Civil_1 (.s0 day0 year2 month3)) (Tdate_Civil_1 k)
    | _, _, _, _ => none)
  | false => none⟩

def cldate_Civil_1 : List Tmp := [1, 4, 5, 6, 7, 8, 9, 10, 11, 12, 13, 14, 15, 16, 17, 18, 19, 20, 21, 22, 23, 24, 25, 26, 27, 28, 29, 30, 31, 32, 33, 34, 35, 36, 37, 38, 39, 40, 41, 42, 43, 44]
def clodate_Civil_1 : List Tmp := [1, 4, 5, 6, 7, 8, 9, 10, 11, 12, 13, 14, 15, 16, 17, 18, 19, 20, 21, 22, 23, 24, 25, 26, 27, 28, 29, 30, 31, 32, 33, 34, 35, 36, 37, 38, 39, 40, 41, 42, 43, 44]

noncomputable def Rdate_Civil_1 {β : Type} (K : PureK) (d : Odate_Civil_1 → Option β) (r : Sdate_Civil_1 → Option β) : Sdate_Civil_1 → Option β
  | .s0 day0 year2 month3 =>
    optK (br (decide (month3 < 12))
        (optK (K f_date_count [iv year2, iv (w64 (month3 + 1)), iv 1]) fun wv2 =>
        Ab.asInt wv2 .i64 fun wn3 =>
        some (bv (decide (wn3 ≤ day0))))
        (some (bv false))) fun wv1 =>
    Ab.asBool wv1 fun wb4 =>
    br wb4
      (r (.s0 day0 year2 (w64 (month3 + 1))))
      (d (.x0 day0 year2 month3))
theorem rounddate_Civil_1 (K : PureK) (ldate_Civil_0 : Sdate_Civil_0 → Option Odate_Civil_0) {β : Type} (r : Env → Heap → Option β) (k : Ex → Env → Heap → Option β) (s : Sdate_Civil_1) : tellOne (addLp X 16 4 (Fdate_Civil_0 ldate_Civil_0)) K 0 16 1 [(0, 1, 0), (1, 1, 0), (2, 1, 0)] 0 cldate_Civil_1 clodate_Civil_1 r k (Edate_Civil_1 s) (Hdate_Civil_1 s) = Rdate_Civil_1 K (Tdate_Civil_1 k) (fun s => r (Edate_Civil_1 s) (Hdate_Civil_1 s)) s := by
  cases s <;> kernel_rfl
theorem Odate_Civil_1.bind_k {β γ : Type} (o : Odate_Civil_1) (c0 : Int → Int → Int → Option β) (φ : β → Option γ) : (Odate_Civil_1.k o c0).bind φ = Odate_Civil_1.k o (fun day0 year2 month3 => (c0 day0 year2 month3).bind φ) := by cases o <;> rfl
theorem natdate_Civil_1 (K : PureK) {β γ : Type} (φ : β → Option γ) (d : Odate_Civil_1 → Option β) (r : Sdate_Civil_1 → Option β) (s : Sdate_Civil_1) : Rdate_Civil_1 K (fun o => (d o).bind φ) (fun s => (r s).bind φ) s = (Rdate_Civil_1 K d r s).bind φ := by
  cases s <;> simp only [Rdate_Civil_1, bind_optK, bind_br, bind_asInt, bind_asBool, bind_asStr, bind_asLst, bind_asAgg, bind_asTup, bind_asBig, bind_asErr, bind_none]
theorem outdate_Civil_1 (o : Odate_Civil_1) : ∃ x e' h', ∀ {β : Type} (k : Ex → Env → Heap → Option β), Tdate_Civil_1 k o = k x e' h' := by cases o <;> exact ⟨_, _, _, fun _ => rfl⟩
theorem okdate_Civil_1 {K : PureK} (ldate_Civil_0 : Sdate_Civil_0 → Option Odate_Civil_0) (hX : Sound (addLp X 16 4 (Fdate_Civil_0 ldate_Civil_0))) (hK : KOk X K) {ldate_Civil_1 : Sdate_Civil_1 → Option Odate_Civil_1} (hl : ∀ s o, ldate_Civil_1 s = some o → ∃ m, fuelRec (Rdate_Civil_1 K some) m s = some o) (β : Type) (e : Env) (h : Heap) (k : Ex → Env → Heap → Option β) (r : β) (hr : (Fdate_Civil_1 ldate_Civil_1).run e h k = some r) : ∃ x e' h', k x e' h' = some r ∧ CodeAt (addLp X 16 4 (Fdate_Civil_0 ldate_Civil_0)) (.loop (loopBody ((addLp X 16 4 (Fdate_Civil_0 ldate_Civil_0))).P 16 1)) e h x e' h' := by
  obtain ⟨fn, c, hin⟩ := loopIn_of (X := (addLp X 16 4 (Fdate_Civil_0 ldate_Civil_0))) (f := 16) (i := 1) (key := 7) (by kernel_rfl)
  simp only [Fdate_Civil_1] at hr
  split at hr
  · rename_i hlen
    have hlen := Nat.eq_of_beq_eq_true hlen
    split at hr
    · rename_i q0 q2 q3
      obtain ⟨o, ho, hr⟩ := optK_some hr
      refine tell_ok hX (KOk.congr (X := X) (Y := (addLp X 16 4 (Fdate_Civil_0 ldate_Civil_0))) rfl rfl hK) hin (E := Edate_Civil_1) (H := Hdate_Civil_1) (R := fun d r => Rdate_Civil_1 K d r) (T := Tdate_Civil_1) (ts := [(0, 1, 0), (1, 1, 0), (2, 1, 0)]) (len := 0) (cl := cldate_Civil_1) (clo := clodate_Civil_1) (rounddate_Civil_1 K ldate_Civil_0) (natdate_Civil_1 K) outdate_Civil_1 (hl _ _ ho) (cl0 := cldate_Civil_1) (ts0 := []) ?_ rfl (by kernel_rfl) (by kernel_rfl) hr
      rw [clear_lit e 45 hlen, show clearEnv cldate_Civil_1 ((List.range 45).map fun i => e.getD i .dead) = [e.getD 0 .dead, .dead, e.getD 2 .dead, e.getD 3 .dead, .dead, .dead, .dead, .dead, .dead, .dead, .dead, .dead, .dead, .dead, .dead, .dead, .dead, .dead, .dead, .dead, .dead, .dead, .dead, .dead, .dead, .dead, .dead, .dead, .dead, .dead, .dead, .dead, .dead, .dead, .dead, .dead, .dead, .dead, .dead, .dead, .dead, .dead, .dead, .dead, .dead] from by kernel_rfl]; rw [q0, q2, q3]
      kernel_rfl
    · cases hr
  · cases hr
noncomputable def Rdate_Civil (K : PureK) (ldate_Civil_0 : Sdate_Civil_0 → Option Odate_Civil_0) (ldate_Civil_1 : Sdate_Civil_1 → Option Odate_Civil_1) (day0 : Int) : Option AV :=
  optK (br (decide (day0 < 0))
        (some (bv true))
        (some (bv (decide (day0 > 2932896))))) fun wv7 =>
    Ab.asBool wv7 fun wb8 =>
    br wb8
      (some (AV.tup [iv 0, iv 0, iv 0]))
      (optK (ldate_Civil_0 (Sdate_Civil_0.s0 day0 (w64 (1970 + w64 (day0.tdiv 366))))) fun wo9 => Odate_Civil_0.k wo9 (fun (day0_10 : Int) (year2_10 : Int) =>
      optK (ldate_Civil_1 (Sdate_Civil_1.s0 day0_10 year2_10 1)) fun wo11 => Odate_Civil_1.k wo11 (fun (day0_12 : Int) (year2_12 : Int) (month3_12 : Int) =>
      optK (K f_date_count [iv year2_12, iv month3_12, iv 1]) fun wv13 =>
      Ab.asInt wv13 .i64 fun wn14 =>
      some (AV.tup [iv year2_12, iv month3_12, iv (w64 (w64 (day0_12 - wn14) + 1))]))))
theorem topdate_Civil (K : PureK) (ldate_Civil_0 : Sdate_Civil_0 → Option Odate_Civil_0) (ldate_Civil_1 : Sdate_Civil_1 → Option Odate_Civil_1) (day0 : Int) : topK (addLp (addLp X 16 4 (Fdate_Civil_0 ldate_Civil_0)) 16 7 (Fdate_Civil_1 ldate_Civil_1)) K 0 f_date_Civil [(.v (.int .i64 day0))] = Rdate_Civil K ldate_Civil_0 ldate_Civil_1 day0 := by kernel_rfl
theorem pcdate_Civil {K : PureK} (hK : KOk X K) {ldate_Civil_0 : Sdate_Civil_0 → Option Odate_Civil_0} {ldate_Civil_1 : Sdate_Civil_1 → Option Odate_Civil_1} (hdate_Civil_0 : ∀ s o, ldate_Civil_0 s = some o → ∃ m, fuelRec (Rdate_Civil_0 K some) m s = some o) (hdate_Civil_1 : ∀ s o, ldate_Civil_1 s = some o → ∃ m, fuelRec (Rdate_Civil_1 K some) m s = some o) {day0 : Int} {v : AV} (h : Rdate_Civil K ldate_Civil_0 ldate_Civil_1 day0 = some v) : PureCall X f_date_Civil [(.v (.int .i64 day0))] v := by
  have hSo0 := soundX
  obtain ⟨_, _, hin0⟩ := loopIn_of (X := X) (f := 16) (i := 0) (key := 4) (by kernel_rfl)
  have hSo1 := sound_add hSo0 hin0 (okdate_Civil_0 hSo0 hK hdate_Civil_0)
  obtain ⟨_, _, hin1⟩ := loopIn_of (X := (addLp X 16 4 (Fdate_Civil_0 ldate_Civil_0))) (f := 16) (i := 1) (key := 7) (by kernel_rfl)
  have hSo2 := sound_add hSo1 hin1 (okdate_Civil_1 ldate_Civil_0 hSo1 hK hdate_Civil_1)
  exact tell_top (X := X) (Y := (addLp (addLp X 16 4 (Fdate_Civil_0 ldate_Civil_0)) 16 7 (Fdate_Civil_1 ldate_Civil_1))) rfl rfl hSo2 hK ((topdate_Civil K ldate_Civil_0 ldate_Civil_1 day0).trans h)

/-! 18: escheat/date.Number -/
noncomputable def Rdate_Number (K : PureK) (year0 : Int) (month1 : Int) (dom2 : Int) : Option AV :=
  optK (br (decide (year0 < 1970))
        (some (bv true))
        (optK (K f_date_there [iv year0, iv month1, iv dom2]) fun wv2 =>
        Ab.asBool wv2 fun wb3 =>
        some (bv !wb3))) fun wv1 =>
    Ab.asBool wv1 fun wb4 =>
    br wb4
      (some (iv (-1)))
      (optK (K f_date_count [iv year0, iv month1, iv dom2]) fun wv5 =>
      Ab.asInt wv5 .i64 fun wn6 =>
      some (iv wn6))
theorem topdate_Number (K : PureK) (year0 : Int) (month1 : Int) (dom2 : Int) : topK X K 0 f_date_Number [(.v (.int .i64 year0)), (.v (.int .i64 month1)), (.v (.int .i64 dom2))] = Rdate_Number K year0 month1 dom2 := by kernel_rfl
theorem pcdate_Number {K : PureK} (hK : KOk X K) {year0 : Int} {month1 : Int} {dom2 : Int} {v : AV} (h : Rdate_Number K year0 month1 dom2 = some v) : PureCall X f_date_Number [(.v (.int .i64 year0)), (.v (.int .i64 month1)), (.v (.int .i64 dom2))] v := by
  have hSo0 := soundX
  exact tell_top (X := X) (Y := X) rfl rfl hSo0 hK ((topdate_Number K year0 month1 dom2).trans h)

/-! 46: escheat/date.number -/
noncomputable def Rdate_number (K : PureK) (s0 : ByteArray) (least1 : Int) (most2 : Int) : Option AV :=
  optK (br (decide (((s0.size : Nat) : Int) < least1))
        (some (bv true))
        (br (decide (((s0.size : Nat) : Int) > most2))
          (some (bv true))
          (optK (K f_strings_Trim [sv s0, sv ({ data := #[48, 49, 50, 51, 52, 53, 54, 55, 56, 57] } : ByteArray)]) fun wv2 =>
          Ab.asStr wv2 fun ws3 =>
          some (bv !strEq ws3 ({ data := #[] } : ByteArray))))) fun wv1 =>
    Ab.asBool wv1 fun wb4 =>
    br wb4
      (some (AV.tup [iv 0, bv false]))
      (optK (K f_strconv_Atoi [sv s0]) fun wv5 =>
      Ab.asTup wv5 2 fun wg6 =>
      Ab.asInt (wg6 0) .i64 fun wn7 =>
      br (refFree (AV.tup [iv wn7, (wg6 1)]))
        (some (AV.tup [iv wn7, bv true]))
        (none))
theorem topdate_number (K : PureK) (s0 : ByteArray) (least1 : Int) (most2 : Int) : topK X K 0 f_date_number [(.v (.string s0)), (.v (.int .i64 least1)), (.v (.int .i64 most2))] = Rdate_number K s0 least1 most2 := by kernel_rfl
theorem pcdate_number {K : PureK} (hK : KOk X K) {s0 : ByteArray} {least1 : Int} {most2 : Int} {v : AV} (h : Rdate_number K s0 least1 most2 = some v) : PureCall X f_date_number [(.v (.string s0)), (.v (.int .i64 least1)), (.v (.int .i64 most2))] v := by
  have hSo0 := soundX
  exact tell_top (X := X) (Y := X) rfl rfl hSo0 hK ((topdate_number K s0 least1 most2).trans h)

/-! 21: escheat/date.calendar -/
inductive Sdate_calendar_0 where
  | s0 (month1 : ByteArray) (d8 : Int) (ok9 : Bool) (y10 : Int) (is11 : Bool) (t24_0 : ByteArray) (t24_1 : ByteArray) (t24_2 : ByteArray) (t24_3 : ByteArray) (t24_4 : ByteArray) (t24_5 : ByteArray) (t24_6 : ByteArray) (t24_7 : ByteArray) (t24_8 : ByteArray) (t24_9 : ByteArray) (t24_10 : ByteArray) (t24_11 : ByteArray) (t25 : Int)

inductive Odate_calendar_0 where
  | x0 (t6 : Int) (t7 : Bool)
  | x1

def Odate_calendar_0.k {β : Type} (o : Odate_calendar_0) (c0 : Int → Bool → Option β) (c1 : Option β) : Option β := match o with
  | .x0 t6 t7 => c0 t6 t7
  | .x1 => c1

def Edate_calendar_0 : Sdate_calendar_0 → Env
  | .s0 month1 d8 ok9 y10 is11 t24_0 t24_1 t24_2 t24_3 t24_4 t24_5 t24_6 t24_7 t24_8 t24_9 t24_10 t24_11 t25 => [.dead, (.v (.string month1)), .dead, .dead, .dead, .dead, .dead, .dead, (.v (.int .i64 d8)), (.v (.bool ok9)), (.v (.int .i64 y10)), (.v (.bool is11)), .dead, .dead, .dead, .dead, .dead, .dead, .dead, .dead, .dead, .dead, .dead, .dead, (.agg [(.v (.string t24_0)), (.v (.string t24_1)), (.v (.string t24_2)), (.v (.string t24_3)), (.v (.string t24_4)), (.v (.string t24_5)), (.v (.string t24_6)), (.v (.string t24_7)), (.v (.string t24_8)), (.v (.string t24_9)), (.v (.string t24_10)), (.v (.string t24_11))]), (.v (.int .i64 t25)), .dead, .dead, .dead, .dead, .dead, .dead, .dead, .dead, .dead, .dead, .dead, .dead, .dead, .dead, .dead, .dead, .dead, .dead, .dead, .dead, .dead, .dead, .dead, .dead, .dead, .dead, .dead, .dead, .dead, .dead, .dead, .dead]

def Hdate_calendar_0 : Sdate_calendar_0 → Heap
  | .s0 month1 d8 ok9 y10 is11 t24_0 t24_1 t24_2 t24_3 t24_4 t24_5 t24_6 t24_7 t24_8 t24_9 t24_10 t24_11 t25 => []

def Tdate_calendar_0 {β : Type} (k : Ex → Env → Heap → Option β) (o : Odate_calendar_0) : Option β := Odate_calendar_0.k o (fun t6 t7 => k .ret [.dead, .dead, .dead, .dead, .dead, .dead, (.v (.int .i64 t6)), (.v (.bool t7)), .dead, .dead, .dead, .dead, .dead, .dead, .dead, .dead, .dead, .dead, .dead, .dead, .dead, .dead, .dead, .dead, .dead, .dead, .dead, .dead, .dead, .dead, .dead, .dead, .dead, .dead, .dead, .dead, .dead, .dead, .dead, .dead, .dead, .dead, .dead, .dead, .dead, .dead, .dead, .dead, .dead, .dead, .dead, .dead, .dead, .dead, .dead, .dead, .dead, .dead] []) (k (.exit 0) [.dead, .dead, .dead, .dead, .dead, .dead, .dead, .dead, .dead, .dead, .dead, .dead, .dead, .dead, .dead, .dead, .dead, .dead, .dead, .dead, .dead, .dead, .dead, .dead, .dead, .dead, .dead, .dead, .dead, .dead, .dead, .dead, .dead, .dead, .dead, .dead, .dead, .dead, .dead, .dead, .dead, .dead, .dead, .dead, .dead, .dead, .dead, .dead, .dead, .dead, .dead, .dead, .dead, .dead, .dead, .dead, .dead, .dead] [])

def Fdate_calendar_0 (ldate_calendar_0 : Sdate_calendar_0 → Option Odate_calendar_0) : LoopF := ⟨fun e h k => match Nat.beq e.length 58 with
  | true => (match e.getD 1 .dead, e.getD 8 .dead, e.getD 9 .dead, e.getD 10 .dead, e.getD 11 .dead, e.getD 24 .dead, e.getD 25 .dead, h with
    | (.v (.string month1)), (.v (.int .i64 d8)), (.v (.bool ok9)), (.v (.int .i64 y10)), (.v (.bool is11)), (.agg [(.v (.string t24_0)), (.v (.string t24_1)), (.v (.string t24_2)), (.v (.string t24_3)), (.v (.string t24_4)), (.v (.string t24_5)), (.v (.string t24_6)), (.v (.string t24_7)), (.v (.string t24_8)), (.v (.string t24_9)), (.v (.string t24_10)), (.v (.string t24_11))]), (.v (.int .i64 t25)), [] => optK (ldate_calendar_0 (.s0 month1 d8 ok9 y10 is11 t24_0 t24_1 t24_2 t24_3 t24_4 t24_5 t24_6 t24_7 t24_8 t24_9 t24_10 t24_11 t25)) (Tdate_calendar_0 k)
    | _, _, _, _, _, _, _, _ => none)
  | false => none⟩

def cldate_calendar_0 : List Tmp := [0, 2, 3, 4, 5, 6, 7, 12, 13, 14, 15, 16, 17, 18, 19, 20, 21, 22, 23, 26, 27, 28, 29, 30, 31, 32, 33, 34, 35, 36, 37, 38, 39, 40, 41, 42, 43, 44, 45, 46, 47, 48, 49, 50, 51, 52, 53, 54, 55, 56, 57]
def clodate_calendar_0 : List Tmp := [0, 1, 2, 3, 4, 5, 8, 9, 10, 11, 12, 13, 14, 15, 16, 17, 18, 19, 20, 21, 22, 23, 24, 25, 26, 27, 28, 29, 30, 31, 32, 33, 34, 35, 36, 37, 38, 39, 40, 41, 42, 43, 44, 45, 46, 47, 48, 49, 50, 51, 52, 53, 54, 55, 56, 57]

noncomputable def Rdate_calendar_0 {β : Type} (K : PureK) (d : Odate_calendar_0 → Option β) (r : Sdate_calendar_0 → Option β) : Sdate_calendar_0 → Option β
  | .s0 month1 d8 ok9 y10 is11 t24_0 t24_1 t24_2 t24_3 t24_4 t24_5 t24_6 t24_7 t24_8 t24_9 t24_10 t24_11 t25 =>
    br (decide (t25 < 12))
      (br (decide (0 ≤ t25))
        (br (decide (t25 < 12))
          (optK ([sv t24_0, sv t24_1, sv t24_2, sv t24_3, sv t24_4, sv t24_5, sv t24_6, sv t24_7, sv t24_8, sv t24_9, sv t24_10, sv t24_11][t25.toNat * 1]?) fun wv1 =>
          Ab.asStr wv1 fun ws2 =>
          optK (br ok9
              (br is11
                (br (((month1.size : Nat) : Int) == ((ws2.size : Nat) : Int))
                  (optK (K f_strings_EqualFold [sv ws2, sv month1]) fun wv4 =>
                  Ab.asBool wv4 fun wb5 =>
                  br wb5
                    (optK (K f_date_there [iv y10, iv (w64 (t25 + 1)), iv d8]) fun wv6 =>
                    Ab.asBool wv6 fun wb7 =>
                    some (bv wb7))
                    (some (bv false)))
                  (some (bv false)))
                (some (bv false)))
              (some (bv false))) fun wv3 =>
          Ab.asBool wv3 fun wb8 =>
          br wb8
            (optK (K f_date_count [iv y10, iv (w64 (t25 + 1)), iv d8]) fun wv9 =>
            Ab.asInt wv9 .i64 fun wn10 =>
            d (.x0 wn10 true))
            (r (.s0 month1 d8 ok9 y10 is11 t24_0 t24_1 t24_2 t24_3 t24_4 t24_5 t24_6 t24_7 t24_8 t24_9 t24_10 t24_11 (w64 (t25 + 1)))))
          (none))
        (none))
      (d (.x1))
theorem rounddate_calendar_0 (K : PureK) {β : Type} (r : Env → Heap → Option β) (k : Ex → Env → Heap → Option β) (s : Sdate_calendar_0) : tellOne X K 0 21 0 [(0, 1, 0), (1, 1, 0), (2, 1, 0)] 0 cldate_calendar_0 clodate_calendar_0 r k (Edate_calendar_0 s) (Hdate_calendar_0 s) = Rdate_calendar_0 K (Tdate_calendar_0 k) (fun s => r (Edate_calendar_0 s) (Hdate_calendar_0 s)) s := by
  cases s <;> kernel_rfl
theorem Odate_calendar_0.bind_k {β γ : Type} (o : Odate_calendar_0) (c0 : Int → Bool → Option β) (c1 : Option β) (φ : β → Option γ) : (Odate_calendar_0.k o c0 c1).bind φ = Odate_calendar_0.k o (fun t6 t7 => (c0 t6 t7).bind φ) (c1.bind φ) := by cases o <;> rfl
theorem natdate_calendar_0 (K : PureK) {β γ : Type} (φ : β → Option γ) (d : Odate_calendar_0 → Option β) (r : Sdate_calendar_0 → Option β) (s : Sdate_calendar_0) : Rdate_calendar_0 K (fun o => (d o).bind φ) (fun s => (r s).bind φ) s = (Rdate_calendar_0 K d r s).bind φ := by
  cases s <;> simp only [Rdate_calendar_0, bind_optK, bind_br, bind_asInt, bind_asBool, bind_asStr, bind_asLst, bind_asAgg, bind_asTup, bind_asBig, bind_asErr, bind_none]
theorem outdate_calendar_0 (o : Odate_calendar_0) : ∃ x e' h', ∀ {β : Type} (k : Ex → Env → Heap → Option β), Tdate_calendar_0 k o = k x e' h' := by cases o <;> exact ⟨_, _, _, fun _ => rfl⟩
theorem okdate_calendar_0 {K : PureK} (hX : Sound X) (hK : KOk X K) {ldate_calendar_0 : Sdate_calendar_0 → Option Odate_calendar_0} (hl : ∀ s o, ldate_calendar_0 s = some o → ∃ m, fuelRec (Rdate_calendar_0 K some) m s = some o) (β : Type) (e : Env) (h : Heap) (k : Ex → Env → Heap → Option β) (r : β) (hr : (Fdate_calendar_0 ldate_calendar_0).run e h k = some r) : ∃ x e' h', k x e' h' = some r ∧ CodeAt X (.loop (loopBody (X).P 21 0)) e h x e' h' := by
  obtain ⟨fn, c, hin⟩ := loopIn_of (X := X) (f := 21) (i := 0) (key := 4) (by kernel_rfl)
  simp only [Fdate_calendar_0] at hr
  split at hr
  · rename_i hlen
    have hlen := Nat.eq_of_beq_eq_true hlen
    split at hr
    · rename_i q1 q8 q9 q10 q11 q24 q25
      obtain ⟨o, ho, hr⟩ := optK_some hr
      refine tell_ok hX (KOk.congr (X := X) (Y := X) rfl rfl hK) hin (E := Edate_calendar_0) (H := Hdate_calendar_0) (R := fun d r => Rdate_calendar_0 K d r) (T := Tdate_calendar_0) (ts := [(0, 1, 0), (1, 1, 0), (2, 1, 0)]) (len := 0) (cl := cldate_calendar_0) (clo := clodate_calendar_0) (rounddate_calendar_0 K) (natdate_calendar_0 K) outdate_calendar_0 (hl _ _ ho) (cl0 := cldate_calendar_0) (ts0 := []) ?_ rfl (by kernel_rfl) (by kernel_rfl) hr
      rw [clear_lit e 58 hlen, show clearEnv cldate_calendar_0 ((List.range 58).map fun i => e.getD i .dead) = [.dead, e.getD 1 .dead, .dead, .dead, .dead, .dead, .dead, .dead, e.getD 8 .dead, e.getD 9 .dead, e.getD 10 .dead, e.getD 11 .dead, .dead, .dead, .dead, .dead, .dead, .dead, .dead, .dead, .dead, .dead, .dead, .dead, e.getD 24 .dead, e.getD 25 .dead, .dead, .dead, .dead, .dead, .dead, .dead, .dead, .dead, .dead, .dead, .dead, .dead, .dead, .dead, .dead, .dead, .dead, .dead, .dead, .dead, .dead, .dead, .dead, .dead, .dead, .dead, .dead, .dead, .dead, .dead, .dead, .dead] from by kernel_rfl]; rw [q1, q8, q9, q10, q11, q24, q25]
      kernel_rfl
    · cases hr
  · cases hr
noncomputable def Rdate_calendar (K : PureK) (ldate_calendar_0 : Sdate_calendar_0 → Option Odate_calendar_0) (dom0 : ByteArray) (month1 : ByteArray) (year2 : ByteArray) : Option AV :=
  optK (K f_date_number [sv dom0, iv 1, iv 2]) fun wv9 =>
    Ab.asTup wv9 2 fun wg10 =>
    Ab.asInt (wg10 0) .i64 fun wn11 =>
    Ab.asBool (wg10 1) fun wb12 =>
    optK (K f_date_number [sv year2, iv 4, iv 4]) fun wv13 =>
    Ab.asTup wv13 2 fun wg14 =>
    Ab.asInt (wg14 0) .i64 fun wn15 =>
    Ab.asBool (wg14 1) fun wb16 =>
    optK (ldate_calendar_0 (Sdate_calendar_0.s0 month1 wn11 wb12 wn15 wb16 ({ data := #[74, 97, 110] } : ByteArray) ({ data := #[70, 101, 98] } : ByteArray) ({ data := #[77, 97, 114] } : ByteArray) ({ data := #[65, 112, 114] } : ByteArray) ({ data := #[77, 97, 121] } : ByteArray) ({ data := #[74, 117, 110] } : ByteArray) ({ data := #[74, 117, 108] } : ByteArray) ({ data := #[65, 117, 103] } : ByteArray) ({ data := #[83, 101, 112] } : ByteArray) ({ data := #[79, 99, 116] } : ByteArray) ({ data := #[78, 111, 118] } : ByteArray) ({ data := #[68, 101, 99] } : ByteArray) 0)) fun wo17 => Odate_calendar_0.k wo17
      (fun (t6_18 : Int) (t7_18 : Bool) => some (AV.tup [iv t6_18, bv t7_18]))
      (some (AV.tup [iv 0, bv false]))
theorem topdate_calendar (K : PureK) (ldate_calendar_0 : Sdate_calendar_0 → Option Odate_calendar_0) (dom0 : ByteArray) (month1 : ByteArray) (year2 : ByteArray) : topK (addLp X 21 4 (Fdate_calendar_0 ldate_calendar_0)) K 0 f_date_calendar [(.v (.string dom0)), (.v (.string month1)), (.v (.string year2))] = Rdate_calendar K ldate_calendar_0 dom0 month1 year2 := by kernel_rfl
theorem pcdate_calendar {K : PureK} (hK : KOk X K) {ldate_calendar_0 : Sdate_calendar_0 → Option Odate_calendar_0} (hdate_calendar_0 : ∀ s o, ldate_calendar_0 s = some o → ∃ m, fuelRec (Rdate_calendar_0 K some) m s = some o) {dom0 : ByteArray} {month1 : ByteArray} {year2 : ByteArray} {v : AV} (h : Rdate_calendar K ldate_calendar_0 dom0 month1 year2 = some v) : PureCall X f_date_calendar [(.v (.string dom0)), (.v (.string month1)), (.v (.string year2))] v := by
  have hSo0 := soundX
  obtain ⟨_, _, hin0⟩ := loopIn_of (X := X) (f := 21) (i := 0) (key := 4) (by kernel_rfl)
  have hSo1 := sound_add hSo0 hin0 (okdate_calendar_0 hSo0 hK hdate_calendar_0)
  exact tell_top (X := X) (Y := (addLp X 21 4 (Fdate_calendar_0 ldate_calendar_0))) rfl rfl hSo1 hK ((topdate_calendar K ldate_calendar_0 dom0 month1 year2).trans h)

/-! 24: escheat/date.zone -/
noncomputable def Rdate_zone (K : PureK) (s0 : ByteArray) : Option AV :=
  br (((s0.size : Nat) : Int) != 5)
      (some (AV.tup [iv 0, bv false]))
      (br (decide (1 ≤ ((s0.size : Nat) : Int)))
        (optK (K f_date_number [sv (cutStr s0 (some 1) none), iv 4, iv 4]) fun wv1 =>
        Ab.asTup wv1 2 fun wg2 =>
        Ab.asInt (wg2 0) .i64 fun wn3 =>
        Ab.asBool (wg2 1) fun wb4 =>
        optK (br (!wb4)
            (some (bv true))
            (some (bv (decide (wn3.tmod 100 > 59))))) fun wv5 =>
        Ab.asBool wv5 fun wb6 =>
        br wb6
          (some (AV.tup [iv 0, bv false]))
          (br (decide (0 < ((s0.size : Nat) : Int)))
            (br (bt s0 0 == 43)
              (some (AV.tup [iv (w64 (w64 (w64 (wn3.tdiv 100) * 3600) + w64 (wn3.tmod 100 * 60))), bv true]))
              (br (bt s0 0 == 45)
                (some (AV.tup [iv (w64 (0 - w64 (w64 (w64 (wn3.tdiv 100) * 3600) + w64 (wn3.tmod 100 * 60)))), bv true]))
                (some (AV.tup [iv 0, bv false]))))
            (none)))
        (none))
theorem topdate_zone (K : PureK) (s0 : ByteArray) : topK X K 0 f_date_zone [(.v (.string s0))] = Rdate_zone K s0 := by kernel_rfl
theorem pcdate_zone {K : PureK} (hK : KOk X K) {s0 : ByteArray} {v : AV} (h : Rdate_zone K s0 = some v) : PureCall X f_date_zone [(.v (.string s0))] v := by
  have hSo0 := soundX
  exact tell_top (X := X) (Y := X) rfl rfl hSo0 hK ((topdate_zone K s0).trans h)

/-! 36: escheat/date.two -/
noncomputable def Rdate_two (K : PureK) (n0 : Int) : Option AV :=
  some (sv ({ data := [UInt8.ofNat (w8 (w64 (48 + n0.tmod 10))).toNat, UInt8.ofNat (w8 (w64 (48 + (w64 (n0.tdiv 10)).tmod 10))).toNat].reverse.toArray } : ByteArray))
theorem topdate_two (K : PureK) (n0 : Int) : topK X K 0 f_date_two [(.v (.int .i64 n0))] = Rdate_two K n0 := by kernel_rfl
theorem pcdate_two {K : PureK} (hK : KOk X K) {n0 : Int} {v : AV} (h : Rdate_two K n0 = some v) : PureCall X f_date_two [(.v (.int .i64 n0))] v := by
  have hSo0 := soundX
  exact tell_top (X := X) (Y := X) rfl rfl hSo0 hK ((topdate_two K n0).trans h)

/-! 14: escheat/date.Day -/
noncomputable def Rdate_Day (K : PureK) (t0 : Int) : Option AV :=
  br (decide (t0 < 0))
      (some (iv (-1)))
      (some (iv (w64 (t0.tdiv 86400))))
theorem topdate_Day (K : PureK) (t0 : Int) : topK X K 0 f_date_Day [(.v (.int .i64 t0))] = Rdate_Day K t0 := by kernel_rfl
theorem pcdate_Day {K : PureK} (hK : KOk X K) {t0 : Int} {v : AV} (h : Rdate_Day K t0 = some v) : PureCall X f_date_Day [(.v (.int .i64 t0))] v := by
  have hSo0 := soundX
  exact tell_top (X := X) (Y := X) rfl rfl hSo0 hK ((topdate_Day K t0).trans h)

/-! 12: escheat/date.Print -/
noncomputable def Rdate_Print (K : PureK) (t0 : Int) : Option AV :=
  optK (br (decide (t0 < 0))
        (some (bv true))
        (some (bv (decide (t0 > 253402300799))))) fun wv1 =>
    Ab.asBool wv1 fun wb2 =>
    br wb2
      (some (AV.tup [sv ({ data := #[] } : ByteArray), iv 15]))
      (optK (K f_date_Day [iv t0]) fun wv3 =>
      Ab.asInt wv3 .i64 fun wn4 =>
      optK (K f_date_Civil [iv wn4]) fun wv5 =>
      Ab.asTup wv5 3 fun wg6 =>
      Ab.asInt (wg6 0) .i64 fun wn7 =>
      Ab.asInt (wg6 1) .i64 fun wn8 =>
      Ab.asInt (wg6 2) .i64 fun wn9 =>
      optK (K f_date_two [iv wn9]) fun wv10 =>
      Ab.asStr wv10 fun ws11 =>
      br (decide (wn9 < 10))
        (br (decide (1 ≤ ((ws11.size : Nat) : Int)))
          (br ((1 + (cutStr ws11 (some 1) none).size).ble maxStr)
            (br (((catStr ({ data := #[32] } : ByteArray) (cutStr ws11 (some 1) none)).size + 1).ble maxStr)
              (br (decide (0 ≤ w64 (wn8 - 1)))
                (br (decide (w64 (wn8 - 1) < 12))
                  (optK (gl_date_names[0 + (w64 (wn8 - 1)).toNat * 1]?) fun wv12 =>
                  Ab.asStr wv12 fun ws13 =>
                  br (((catStr (catStr ({ data := #[32] } : ByteArray) (cutStr ws11 (some 1) none)) ({ data := #[45] } : ByteArray)).size + ws13.size).ble maxStr)
                    (br (((catStr (catStr (catStr ({ data := #[32] } : ByteArray) (cutStr ws11 (some 1) none)) ({ data := #[45] } : ByteArray)) ws13).size + 1).ble maxStr)
                      (optK (K f_date_two [iv (w64 (wn7.tdiv 100))]) fun wv14 =>
                      Ab.asStr wv14 fun ws15 =>
                      br (((catStr (catStr (catStr (catStr ({ data := #[32] } : ByteArray) (cutStr ws11 (some 1) none)) ({ data := #[45] } : ByteArray)) ws13) ({ data := #[45] } : ByteArray)).size + ws15.size).ble maxStr)
                        (optK (K f_date_two [iv (wn7.tmod 100)]) fun wv16 =>
                        Ab.asStr wv16 fun ws17 =>
                        br (((catStr (catStr (catStr (catStr (catStr ({ data := #[32] } : ByteArray) (cutStr ws11 (some 1) none)) ({ data := #[45] } : ByteArray)) ws13) ({ data := #[45] } : ByteArray)) ws15).size + ws17.size).ble maxStr)
                          (br (((catStr (catStr (catStr (catStr (catStr (catStr ({ data := #[32] } : ByteArray) (cutStr ws11 (some 1) none)) ({ data := #[45] } : ByteArray)) ws13) ({ data := #[45] } : ByteArray)) ws15) ws17).size + 1).ble maxStr)
                            (optK (K f_date_two [iv (w64 ((t0.tmod 86400).tdiv 3600))]) fun wv18 =>
                            Ab.asStr wv18 fun ws19 =>
                            br (((catStr (catStr (catStr (catStr (catStr (catStr (catStr ({ data := #[32] } : ByteArray) (cutStr ws11 (some 1) none)) ({ data := #[45] } : ByteArray)) ws13) ({ data := #[45] } : ByteArray)) ws15) ws17) ({ data := #[32] } : ByteArray)).size + ws19.size).ble maxStr)
                              (br (((catStr (catStr (catStr (catStr (catStr (catStr (catStr (catStr ({ data := #[32] } : ByteArray) (cutStr ws11 (some 1) none)) ({ data := #[45] } : ByteArray)) ws13) ({ data := #[45] } : ByteArray)) ws15) ws17) ({ data := #[32] } : ByteArray)) ws19).size + 1).ble maxStr)
                                (optK (K f_date_two [iv ((w64 ((t0.tmod 86400).tdiv 60)).tmod 60)]) fun wv20 =>
                                Ab.asStr wv20 fun ws21 =>
                                br (((catStr (catStr (catStr (catStr (catStr (catStr (catStr (catStr (catStr ({ data := #[32] } : ByteArray) (cutStr ws11 (some 1) none)) ({ data := #[45] } : ByteArray)) ws13) ({ data := #[45] } : ByteArray)) ws15) ws17) ({ data := #[32] } : ByteArray)) ws19) ({ data := #[58] } : ByteArray)).size + ws21.size).ble maxStr)
                                  (br (((catStr (catStr (catStr (catStr (catStr (catStr (catStr (catStr (catStr (catStr ({ data := #[32] } : ByteArray) (cutStr ws11 (some 1) none)) ({ data := #[45] } : ByteArray)) ws13) ({ data := #[45] } : ByteArray)) ws15) ws17) ({ data := #[32] } : ByteArray)) ws19) ({ data := #[58] } : ByteArray)) ws21).size + 1).ble maxStr)
                                    (optK (K f_date_two [iv ((t0.tmod 86400).tmod 60)]) fun wv22 =>
                                    Ab.asStr wv22 fun ws23 =>
                                    br (((catStr (catStr (catStr (catStr (catStr (catStr (catStr (catStr (catStr (catStr (catStr ({ data := #[32] } : ByteArray) (cutStr ws11 (some 1) none)) ({ data := #[45] } : ByteArray)) ws13) ({ data := #[45] } : ByteArray)) ws15) ws17) ({ data := #[32] } : ByteArray)) ws19) ({ data := #[58] } : ByteArray)) ws21) ({ data := #[58] } : ByteArray)).size + ws23.size).ble maxStr)
                                      (br (((catStr (catStr (catStr (catStr (catStr (catStr (catStr (catStr (catStr (catStr (catStr (catStr ({ data := #[32] } : ByteArray) (cutStr ws11 (some 1) none)) ({ data := #[45] } : ByteArray)) ws13) ({ data := #[45] } : ByteArray)) ws15) ws17) ({ data := #[32] } : ByteArray)) ws19) ({ data := #[58] } : ByteArray)) ws21) ({ data := #[58] } : ByteArray)) ws23).size + 6).ble maxStr)
                                        (some (AV.tup [sv (catStr (catStr (catStr (catStr (catStr (catStr (catStr (catStr (catStr (catStr (catStr (catStr (catStr ({ data := #[32] } : ByteArray) (cutStr ws11 (some 1) none)) ({ data := #[45] } : ByteArray)) ws13) ({ data := #[45] } : ByteArray)) ws15) ws17) ({ data := #[32] } : ByteArray)) ws19) ({ data := #[58] } : ByteArray)) ws21) ({ data := #[58] } : ByteArray)) ws23) ({ data := #[32, 43, 48, 48, 48, 48] } : ByteArray)), iv 0]))
                                        (none))
                                      (none))
                                    (none))
                                  (none))
                                (none))
                              (none))
                            (none))
                          (none))
                        (none))
                      (none))
                    (none))
                  (none))
                (none))
              (none))
            (none))
          (none))
        (br ((ws11.size + 1).ble maxStr)
          (br (decide (0 ≤ w64 (wn8 - 1)))
            (br (decide (w64 (wn8 - 1) < 12))
              (optK (gl_date_names[0 + (w64 (wn8 - 1)).toNat * 1]?) fun wv24 =>
              Ab.asStr wv24 fun ws25 =>
              br (((catStr ws11 ({ data := #[45] } : ByteArray)).size + ws25.size).ble maxStr)
                (br (((catStr (catStr ws11 ({ data := #[45] } : ByteArray)) ws25).size + 1).ble maxStr)
                  (optK (K f_date_two [iv (w64 (wn7.tdiv 100))]) fun wv26 =>
                  Ab.asStr wv26 fun ws27 =>
                  br (((catStr (catStr (catStr ws11 ({ data := #[45] } : ByteArray)) ws25) ({ data := #[45] } : ByteArray)).size + ws27.size).ble maxStr)
                    (optK (K f_date_two [iv (wn7.tmod 100)]) fun wv28 =>
                    Ab.asStr wv28 fun ws29 =>
                    br (((catStr (catStr (catStr (catStr ws11 ({ data := #[45] } : ByteArray)) ws25) ({ data := #[45] } : ByteArray)) ws27).size + ws29.size).ble maxStr)
                      (br (((catStr (catStr (catStr (catStr (catStr ws11 ({ data := #[45] } : ByteArray)) ws25) ({ data := #[45] } : ByteArray)) ws27) ws29).size + 1).ble maxStr)
                        (optK (K f_date_two [iv (w64 ((t0.tmod 86400).tdiv 3600))]) fun wv30 =>
                        Ab.asStr wv30 fun ws31 =>
                        br (((catStr (catStr (catStr (catStr (catStr (catStr ws11 ({ data := #[45] } : ByteArray)) ws25) ({ data := #[45] } : ByteArray)) ws27) ws29) ({ data := #[32] } : ByteArray)).size + ws31.size).ble maxStr)
                          (br (((catStr (catStr (catStr (catStr (catStr (catStr (catStr ws11 ({ data := #[45] } : ByteArray)) ws25) ({ data := #[45] } : ByteArray)) ws27) ws29) ({ data := #[32] } : ByteArray)) ws31).size + 1).ble maxStr)
                            (optK (K f_date_two [iv ((w64 ((t0.tmod 86400).tdiv 60)).tmod 60)]) fun wv32 =>
                            Ab.asStr wv32 fun ws33 =>
                            br (((catStr (catStr (catStr (catStr (catStr (catStr (catStr (catStr ws11 ({ data := #[45] } : ByteArray)) ws25) ({ data := #[45] } : ByteArray)) ws27) ws29) ({ data := #[32] } : ByteArray)) ws31) ({ data := #[58] } : ByteArray)).size + ws33.size).ble maxStr)
                              (br (((catStr (catStr (catStr (catStr (catStr (catStr (catStr (catStr (catStr ws11 ({ data := #[45] } : ByteArray)) ws25) ({ data := #[45] } : ByteArray)) ws27) ws29) ({ data := #[32] } : ByteArray)) ws31) ({ data := #[58] } : ByteArray)) ws33).size + 1).ble maxStr)
                                (optK (K f_date_two [iv ((t0.tmod 86400).tmod 60)]) fun wv34 =>
                                Ab.asStr wv34 fun ws35 =>
                                br (((catStr (catStr (catStr (catStr (catStr (catStr (catStr (catStr (catStr (catStr ws11 ({ data := #[45] } : ByteArray)) ws25) ({ data := #[45] } : ByteArray)) ws27) ws29) ({ data := #[32] } : ByteArray)) ws31) ({ data := #[58] } : ByteArray)) ws33) ({ data := #[58] } : ByteArray)).size + ws35.size).ble maxStr)
                                  (br (((catStr (catStr (catStr (catStr (catStr (catStr (catStr (catStr (catStr (catStr (catStr ws11 ({ data := #[45] } : ByteArray)) ws25) ({ data := #[45] } : ByteArray)) ws27) ws29) ({ data := #[32] } : ByteArray)) ws31) ({ data := #[58] } : ByteArray)) ws33) ({ data := #[58] } : ByteArray)) ws35).size + 6).ble maxStr)
                                    (some (AV.tup [sv (catStr (catStr (catStr (catStr (catStr (catStr (catStr (catStr (catStr (catStr (catStr (catStr ws11 ({ data := #[45] } : ByteArray)) ws25) ({ data := #[45] } : ByteArray)) ws27) ws29) ({ data := #[32] } : ByteArray)) ws31) ({ data := #[58] } : ByteArray)) ws33) ({ data := #[58] } : ByteArray)) ws35) ({ data := #[32, 43, 48, 48, 48, 48] } : ByteArray)), iv 0]))
                                    (none))
                                  (none))
                                (none))
                              (none))
                            (none))
                          (none))
                        (none))
                      (none))
                    (none))
                  (none))
                (none))
              (none))
            (none))
          (none)))
theorem topdate_Print (K : PureK) (t0 : Int) : topK X K 0 f_date_Print [(.v (.int .i64 t0))] = Rdate_Print K t0 := by kernel_rfl
theorem pcdate_Print {K : PureK} (hK : KOk X K) {t0 : Int} {v : AV} (h : Rdate_Print K t0 = some v) : PureCall X f_date_Print [(.v (.int .i64 t0))] v := by
  have hSo0 := soundX
  exact tell_top (X := X) (Y := X) rfl rfl hSo0 hK ((topdate_Print K t0).trans h)

/-! 6: escheat/date.Parse -/
noncomputable def Rdate_Parse (K : PureK) (s0 : ByteArray) : Option AV :=
  optK (br (((s0.size : Nat) : Int) != 26)
        (some (bv true))
        (br (decide (11 < ((s0.size : Nat) : Int)))
          (br (bt s0 11 != 32)
            (some (bv true))
            (br (decide (20 < ((s0.size : Nat) : Int)))
              (some (bv (bt s0 20 != 32)))
              (none)))
          (none))) fun wv1 =>
    Ab.asBool wv1 fun wb2 =>
    br wb2
      (some (AV.tup [iv 0, iv 3]))
      (br (decide (11 ≤ ((s0.size : Nat) : Int)))
        (optK (K f_strings_Split [sv (cutStr s0 none (some 11)), sv ({ data := #[45] } : ByteArray)]) fun wv3 =>
        Ab.asLst wv3 1 fun wb4 wr4 =>
        optK (br (((wr4.length : Nat) : Int) != 3)
            (some (bv true))
            (br (decide (0 < ((wr4.length : Nat) : Int)))
              (optK wr4[0]? fun wv6 =>
              Ab.asStr wv6 fun ws7 =>
              some (bv (((ws7.size : Nat) : Int) != 2)))
              (none))) fun wv5 =>
        Ab.asBool wv5 fun wb8 =>
        br wb8
          (some (AV.tup [iv 0, iv 3]))
          (br (decide (0 < ((wr4.length : Nat) : Int)))
            (optK wr4[0]? fun wv9 =>
            Ab.asStr wv9 fun ws10 =>
            optK (K f_strings_TrimPrefix [sv ws10, sv ({ data := #[32] } : ByteArray)]) fun wv11 =>
            Ab.asStr wv11 fun ws12 =>
            br (decide (1 < ((wr4.length : Nat) : Int)))
              (optK wr4[1]? fun wv13 =>
              Ab.asStr wv13 fun ws14 =>
              br (decide (2 < ((wr4.length : Nat) : Int)))
                (optK wr4[2]? fun wv15 =>
                Ab.asStr wv15 fun ws16 =>
                optK (K f_date_calendar [sv ws12, sv ws14, sv ws16]) fun wv17 =>
                Ab.asTup wv17 2 fun wg18 =>
                Ab.asInt (wg18 0) .i64 fun wn19 =>
                Ab.asBool (wg18 1) fun wb20 =>
                br (decide (20 ≤ ((s0.size : Nat) : Int)))
                  (optK (K f_date_clock [sv (cutStr s0 (some 12) (some 20)), bv false]) fun wv21 =>
                  Ab.asTup wv21 2 fun wg22 =>
                  Ab.asInt (wg22 0) .i64 fun wn23 =>
                  Ab.asBool (wg22 1) fun wb24 =>
                  br (decide (21 ≤ ((s0.size : Nat) : Int)))
                    (optK (K f_date_zone [sv (cutStr s0 (some 21) none)]) fun wv25 =>
                    Ab.asTup wv25 2 fun wg26 =>
                    Ab.asInt (wg26 0) .i64 fun wn27 =>
                    Ab.asBool (wg26 1) fun wb28 =>
                    optK (br (!wb20)
                        (some (bv true))
                        (br (!wb24)
                          (some (bv true))
                          (some (bv !wb28)))) fun wv29 =>
                    Ab.asBool wv29 fun wb30 =>
                    br wb30
                      (some (AV.tup [iv 0, iv 3]))
                      (optK (br (decide (w64 (w64 (w64 (wn19 * 86400) + wn23) - wn27) < 0))
                          (some (bv true))
                          (some (bv (decide (w64 (w64 (w64 (wn19 * 86400) + wn23) - wn27) > 253402300799))))) fun wv31 =>
                      Ab.asBool wv31 fun wb32 =>
                      br wb32
                        (some (AV.tup [iv 0, iv 15]))
                        (some (AV.tup [iv (w64 (w64 (w64 (wn19 * 86400) + wn23) - wn27)), iv 0]))))
                    (none))
                  (none))
                (none))
              (none))
            (none)))
        (none))
theorem topdate_Parse (K : PureK) (s0 : ByteArray) : topK X K 0 f_date_Parse [(.v (.string s0))] = Rdate_Parse K s0 := by kernel_rfl
theorem pcdate_Parse {K : PureK} (hK : KOk X K) {s0 : ByteArray} {v : AV} (h : Rdate_Parse K s0 = some v) : PureCall X f_date_Parse [(.v (.string s0))] v := by
  have hSo0 := soundX
  exact tell_top (X := X) (Y := X) rfl rfl hSo0 hK ((topdate_Parse K s0).trans h)

/-! 57: escheat/escheatref07.leap -/
noncomputable def Rref07_leap (K : PureK) (y0 : Int) : Option AV :=
  optK (br (y0.tmod 4 == 0)
        (br (y0.tmod 100 != 0)
          (some (bv true))
          (some (bv (y0.tmod 400 == 0))))
        (some (bv false))) fun wv1 =>
    Ab.asBool wv1 fun wb2 =>
    some (bv wb2)
theorem topref07_leap (K : PureK) (y0 : Int) : topK X K 0 f_ref07_leap [(.v (.int .i64 y0))] = Rref07_leap K y0 := by kernel_rfl
theorem pcref07_leap {K : PureK} (hK : KOk X K) {y0 : Int} {v : AV} (h : Rref07_leap K y0 = some v) : PureCall X f_ref07_leap [(.v (.int .i64 y0))] v := by
  have hSo0 := soundX
  exact tell_top (X := X) (Y := X) rfl rfl hSo0 hK ((topref07_leap K y0).trans h)

/-! 41: escheat/escheatref07.days -/
noncomputable def Rref07_days (K : PureK) (y0 : Int) (m1 : Int) : Option AV :=
  br (m1 == 2)
      (optK (K f_ref07_leap [iv y0]) fun wv1 =>
      Ab.asBool wv1 fun wb2 =>
      br wb2
        (some (iv 29))
        (some (iv 28)))
      (optK (br (m1 == 4)
          (some (bv true))
          (br (m1 == 6)
            (some (bv true))
            (br (m1 == 9)
              (some (bv true))
              (some (bv (m1 == 11)))))) fun wv3 =>
      Ab.asBool wv3 fun wb4 =>
      br wb4
        (some (iv 30))
        (some (iv 31)))
theorem topref07_days (K : PureK) (y0 : Int) (m1 : Int) : topK X K 0 f_ref07_days [(.v (.int .i64 y0)), (.v (.int .i64 m1))] = Rref07_days K y0 m1 := by kernel_rfl
theorem pcref07_days {K : PureK} (hK : KOk X K) {y0 : Int} {m1 : Int} {v : AV} (h : Rref07_days K y0 m1 = some v) : PureCall X f_ref07_days [(.v (.int .i64 y0)), (.v (.int .i64 m1))] v := by
  have hSo0 := soundX
  exact tell_top (X := X) (Y := X) rfl rfl hSo0 hK ((topref07_days K y0 m1).trans h)

/-! 40: escheat/escheatref07.length -/
noncomputable def Rref07_length (K : PureK) (y0 : Int) : Option AV :=
  optK (K f_ref07_leap [iv y0]) fun wv1 =>
    Ab.asBool wv1 fun wb2 =>
    br wb2
      (some (iv 366))
      (some (iv 365))
theorem topref07_length (K : PureK) (y0 : Int) : topK X K 0 f_ref07_length [(.v (.int .i64 y0))] = Rref07_length K y0 := by kernel_rfl
theorem pcref07_length {K : PureK} (hK : KOk X K) {y0 : Int} {v : AV} (h : Rref07_length K y0 = some v) : PureCall X f_ref07_length [(.v (.int .i64 y0))] v := by
  have hSo0 := soundX
  exact tell_top (X := X) (Y := X) rfl rfl hSo0 hK ((topref07_length K y0).trans h)

/-! 43: escheat/escheatref07.there -/
noncomputable def Rref07_there (K : PureK) (y0 : Int) (m1 : Int) (d2 : Int) : Option AV :=
  optK (br (decide (y0 ≥ 0))
        (br (decide (y0 ≤ 9999))
          (br (decide (m1 ≥ 1))
            (br (decide (m1 ≤ 12))
              (br (decide (d2 ≥ 1))
                (optK (K f_ref07_days [iv y0, iv m1]) fun wv2 =>
                Ab.asInt wv2 .i64 fun wn3 =>
                some (bv (decide (d2 ≤ wn3))))
                (some (bv false)))
              (some (bv false)))
            (some (bv false)))
          (some (bv false)))
        (some (bv false))) fun wv1 =>
    Ab.asBool wv1 fun wb4 =>
    some (bv wb4)
theorem topref07_there (K : PureK) (y0 : Int) (m1 : Int) (d2 : Int) : topK X K 0 f_ref07_there [(.v (.int .i64 y0)), (.v (.int .i64 m1)), (.v (.int .i64 d2))] = Rref07_there K y0 m1 d2 := by kernel_rfl
theorem pcref07_there {K : PureK} (hK : KOk X K) {y0 : Int} {m1 : Int} {d2 : Int} {v : AV} (h : Rref07_there K y0 m1 d2 = some v) : PureCall X f_ref07_there [(.v (.int .i64 y0)), (.v (.int .i64 m1)), (.v (.int .i64 d2))] v := by
  have hSo0 := soundX
  exact tell_top (X := X) (Y := X) rfl rfl hSo0 hK ((topref07_there K y0 m1 d2).trans h)

/-! 44: escheat/escheatref07.number -/
inductive Sref07_number_0 where
  | s0 (y0 : Int) (m1 : Int) (n7 : Int) (i8 : Int)

inductive Oref07_number_0 where
  | x0 (y0 : Int) (n7 : Int)

def Oref07_number_0.k {β : Type} (o : Oref07_number_0) (c0 : Int → Int → Option β) : Option β := match o with
  | .x0 y0 n7 => c0 y0 n7

def Eref07_number_0 : Sref07_number_0 → Env
  | .s0 y0 m1 n7 i8 => [(.v (.int .i64 y0)), (.v (.int .i64 m1)), .dead, .dead, .dead, .dead, .dead, (.v (.int .i64 n7)), (.v (.int .i64 i8)), .dead, .dead, .dead, .dead, .dead, .dead, .dead, .dead, .dead, .dead, .dead, .dead, .dead, .dead, .dead, .dead, .dead, .dead, .dead, .dead, .dead, .dead, .dead, .dead, .dead, .dead, .dead, .dead, .dead, .dead, .dead, .dead, .dead]

def Href07_number_0 : Sref07_number_0 → Heap
  | .s0 y0 m1 n7 i8 => []

def Tref07_number_0 {β : Type} (k : Ex → Env → Heap → Option β) (o : Oref07_number_0) : Option β := Oref07_number_0.k o (fun y0 n7 => k (.exit 0) [(.v (.int .i64 y0)), .dead, .dead, .dead, .dead, .dead, .dead, (.v (.int .i64 n7)), .dead, .dead, .dead, .dead, .dead, .dead, .dead, .dead, .dead, .dead, .dead, .dead, .dead, .dead, .dead, .dead, .dead, .dead, .dead, .dead, .dead, .dead, .dead, .dead, .dead, .dead, .dead, .dead, .dead, .dead, .dead, .dead, .dead, .dead] [])

def Fref07_number_0 (lref07_number_0 : Sref07_number_0 → Option Oref07_number_0) : LoopF := ⟨fun e h k => match Nat.beq e.length 42 with
  | true => (match e.getD 0 .dead, e.getD 1 .dead, e.getD 7 .dead, e.getD 8 .dead, h with
    | (.v (.int .i64 y0)), (.v (.int .i64 m1)), (.v (.int .i64 n7)), (.v (.int .i64 i8)), [] => optK (lref07_number_0 (.s0 y0 m1 n7 i8)) (Tref07_number_0 k)
    | _, _, _, _, _ => none)
  | false => none⟩

def clref07_number_0 : List Tmp := [2, 3, 4, 5, 6, 9, 10, 11, 12, 13, 14, 15, 16, 17, 18, 19, 20, 21, 22, 23, 24, 25, 26, 27, 28, 29, 30, 31, 32, 33, 34, 35, 36, 37, 38, 39, 40, 41]
def cloref07_number_0 : List Tmp := [1, 2, 3, 4, 5, 6, 8, 9, 10, 11, 12, 13, 14, 15, 16, 17, 18, 19, 20, 21, 22, 23, 24, 25, 26, 27, 28, 29, 30, 31, 32, 33, 34, 35, 36, 37, 38, 39, 40, 41]

noncomputable def Rref07_number_0 {β : Type} (K : PureK) (d : Oref07_number_0 → Option β) (r : Sref07_number_0 → Option β) : Sref07_number_0 → Option β
  | .s0 y0 m1 n7 i8 =>
    br (decide (i8 < m1))
      (optK (K f_ref07_days [iv y0, iv i8]) fun wv1 =>
      Ab.asInt wv1 .i64 fun wn2 =>
      r (.s0 y0 m1 (w64 (n7 + wn2)) (w64 (i8 + 1))))
      (d (.x0 y0 n7))
theorem roundref07_number_0 (K : PureK) {β : Type} (r : Env → Heap → Option β) (k : Ex → Env → Heap → Option β) (s : Sref07_number_0) : tellOne X K 0 44 0 [(0, 1, 0), (1, 1, 0), (2, 1, 0)] 0 clref07_number_0 cloref07_number_0 r k (Eref07_number_0 s) (Href07_number_0 s) = Rref07_number_0 K (Tref07_number_0 k) (fun s => r (Eref07_number_0 s) (Href07_number_0 s)) s := by
  cases s <;> kernel_rfl
theorem Oref07_number_0.bind_k {β γ : Type} (o : Oref07_number_0) (c0 : Int → Int → Option β) (φ : β → Option γ) : (Oref07_number_0.k o c0).bind φ = Oref07_number_0.k o (fun y0 n7 => (c0 y0 n7).bind φ) := by cases o <;> rfl
theorem natref07_number_0 (K : PureK) {β γ : Type} (φ : β → Option γ) (d : Oref07_number_0 → Option β) (r : Sref07_number_0 → Option β) (s : Sref07_number_0) : Rref07_number_0 K (fun o => (d o).bind φ) (fun s => (r s).bind φ) s = (Rref07_number_0 K d r s).bind φ := by
  cases s <;> simp only [Rref07_number_0, bind_optK, bind_br, bind_asInt, bind_asBool, bind_asStr, bind_asLst, bind_asAgg, bind_asTup, bind_asBig, bind_asErr, bind_none]
theorem outref07_number_0 (o : Oref07_number_0) : ∃ x e' h', ∀ {β : Type} (k : Ex → Env → Heap → Option β), Tref07_number_0 k o = k x e' h' := by cases o <;> exact ⟨_, _, _, fun _ => rfl⟩
theorem okref07_number_0 {K : PureK} (hX : Sound X) (hK : KOk X K) {lref07_number_0 : Sref07_number_0 → Option Oref07_number_0} (hl : ∀ s o, lref07_number_0 s = some o → ∃ m, fuelRec (Rref07_number_0 K some) m s = some o) (β : Type) (e : Env) (h : Heap) (k : Ex → Env → Heap → Option β) (r : β) (hr : (Fref07_number_0 lref07_number_0).run e h k = some r) : ∃ x e' h', k x e' h' = some r ∧ CodeAt X (.loop (loopBody (X).P 44 0)) e h x e' h' := by
  obtain ⟨fn, c, hin⟩ := loopIn_of (X := X) (f := 44) (i := 0) (key := 3) (by kernel_rfl)
  simp only [Fref07_number_0] at hr
  split at hr
  · rename_i hlen
    have hlen := Nat.eq_of_beq_eq_true hlen
    split at hr
    · rename_i q0 q1 q7 q8
      obtain ⟨o, ho, hr⟩ := optK_some hr
      refine tell_ok hX (KOk.congr (X := X) (Y := X) rfl rfl hK) hin (E := Eref07_number_0) (H := Href07_number_0) (R := fun d r => Rref07_number_0 K d r) (T := Tref07_number_0) (ts := [(0, 1, 0), (1, 1, 0), (2, 1, 0)]) (len := 0) (cl := clref07_number_0) (clo := cloref07_number_0) (roundref07_number_0 K) (natref07_number_0 K) outref07_number_0 (hl _ _ ho) (cl0 := clref07_number_0) (ts0 := []) ?_ rfl (by kernel_rfl) (by kernel_rfl) hr
      rw [clear_lit e 42 hlen, show clearEnv clref07_number_0 ((List.range 42).map fun i => e.getD i .dead) = [e.getD 0 .dead, e.getD 1 .dead, .dead, .dead, .dead, .dead, .dead, e.getD 7 .dead, e.getD 8 .dead, .dead, .dead, .dead, .dead, .dead, .dead, .dead, .dead, .dead, .dead, .dead, .dead, .dead, .dead, .dead, .dead, .dead, .dead, .dead, .dead, .dead, .dead, .dead, .dead, .dead, .dead, .dead, .dead, .dead, .dead, .dead, .dead, .dead] from by kernel_rfl]; rw [q0, q1, q7, q8]
      kernel_rfl
    · cases hr
  · cases hr
inductive Sref07_number_1 where
  | s0 (y0 : Int) (n7 : Int) (i9 : Int)

inductive Oref07_number_1 where
  | x0 (y0 : Int) (n7 : Int)

def Oref07_number_1.k {β : Type} (o : Oref07_number_1) (c0 : Int → Int → Option β) : Option β := match o with
  | .x0 y0 n7 => c0 y0 n7

def Eref07_number_1 : Sref07_number_1 → Env
  | .s0 y0 n7 i9 => [(.v (.int .i64 y0)), .dead, .dead, .dead, .dead, .dead, .dead, (.v (.int .i64 n7)), .dead, (.v (.int .i64 i9)), .dead, .dead, .dead, .dead, .dead, .dead, .dead, .dead, .dead, .dead, .dead, .dead, .dead, .dead, .dead, .dead, .dead, .dead, .dead, .dead, .dead, .dead, .dead, .dead, .dead, .dead, .dead, .dead, .dead, .dead, .dead, .dead]

def Href07_number_1 : Sref07_number_1 → Heap
  | .s0 y0 n7 i9 => []

def Tref07_number_1 {β : Type} (k : Ex → Env → Heap → Option β) (o : Oref07_number_1) : Option β := Oref07_number_1.k o (fun y0 n7 => k (.exit 2) [(.v (.int .i64 y0)), .dead, .dead, .dead, .dead, .dead, .dead, (.v (.int .i64 n7)), .dead, .dead, .dead, .dead, .dead, .dead, .dead, .dead, .dead, .dead, .dead, .dead, .dead, .dead, .dead, .dead, .dead, .dead, .dead, .dead, .dead, .dead, .dead, .dead, .dead, .dead, .dead, .dead, .dead, .dead, .dead, .dead, .dead, .dead] [])

def Fref07_number_1 (lref07_number_1 : Sref07_number_1 → Option Oref07_number_1) : LoopF := ⟨fun e h k => match Nat.beq e.length 42 with
  | true => (match e.getD 0 .dead, e.getD 7 .dead, e.getD 9 .dead, h with
    | (.v (.int .i64 y0)), (.v (.int .i64 n7)), (.v (.int .i64 i9)), [] => optK (lref07_number_1 (.s0 y0 n7 i9)) (Tref07_number_1 k)
    | _, _, _, _ => none)
  | false => none⟩

def clref07_number_1 : List Tmp := [1, 2, 3, 4, 5, 6, 8, 10, 11, 12, 13, 14, 15, 16, 17, 18, 19, 20, 21, 22, 23, 24, 25, 26, 27, 28, 29, 30, 31, 32, 33, 34, 35, 36, 37, 38, 39, 40, 41]
def cloref07_number_1 : List Tmp := [1, 2, 3, 4, 5, 6, 8, 9, 10, 11, 12, 13, 14, 15, 16, 17, 18, 19, 20, 21, 22, 23, 24, 25, 26, 27, 28, 29, 30, 31, 32, 33, 34, 35, 36, 37, 38, 39, 40, 41]

noncomputable def Rref07_number_1 {β : Type} (K : PureK) (d : Oref07_number_1 → Option β) (r : Sref07_number_1 → Option β) : Sref07_number_1 → Option β
  | .s0 y0 n7 i9 =>
    br (decide (i9 < y0))
      (optK (K f_ref07_length [iv i9]) fun wv1 =>
      Ab.asInt wv1 .i64 fun wn2 =>
      r (.s0 y0 (w64 (n7 + wn2)) (w64 (i9 + 1))))
      (d (.x0 y0 n7))
theorem roundref07_number_1 (K : PureK) (lref07_number_0 : Sref07_number_0 → Option Oref07_number_0) {β : Type} (r : Env → Heap → Option β) (k : Ex → Env → Heap → Option β) (s : Sref07_number_1) : tellOne (addLp X 44 3 (Fref07_number_0 lref07_number_0)) K 0 44 1 [(0, 1, 0), (1, 1, 0), (2, 1, 0)] 0 clref07_number_1 cloref07_number_1 r k (Eref07_number_1 s) (Href07_number_1 s) = Rref07_number_1 K (Tref07_number_1 k) (fun s => r (Eref07_number_1 s) (Href07_number_1 s)) s := by
  cases s <;> kernel_rfl
theorem Oref07_number_1.bind_k {β γ : Type} (o : Oref07_number_1) (c0 : Int → Int → Option β) (φ : β → Option γ) : (Oref07_number_1.k o c0).bind φ = Oref07_number_1.k o (fun y0 n7 => (c0 y0 n7).bind φ) := by cases o <;> rfl
theorem natref07_number_1 (K : PureK) {β γ : Type} (φ : β → Option γ) (d : Oref07_number_1 → Option β) (r : Sref07_number_1 → Option β) (s : Sref07_number_1) : Rref07_number_1 K (fun o => (d o).bind φ) (fun s => (r s).bind φ) s = (Rref07_number_1 K d r s).bind φ := by
  cases s <;> simp only [Rref07_number_1, bind_optK, bind_br, bind_asInt, bind_asBool, bind_asStr, bind_asLst, bind_asAgg, bind_asTup, bind_asBig, bind_asErr, bind_none]
theorem outref07_number_1 (o : Oref07_number_1) : ∃ x e' h', ∀ {β : Type} (k : Ex → Env → Heap → Option β), Tref07_number_1 k o = k x e' h' := by cases o <;> exact ⟨_, _, _, fun _ => rfl⟩
theorem okref07_number_1 {K : PureK} (lref07_number_0 : Sref07_number_0 → Option Oref07_number_0) (hX : Sound (addLp X 44 3 (Fref07_number_0 lref07_number_0))) (hK : KOk X K) {lref07_number_1 : Sref07_number_1 → Option Oref07_number_1} (hl : ∀ s o, lref07_number_1 s = some o → ∃ m, fuelRec (Rref07_number_1 K some) m s = some o) (β : Type) (e : Env) (h : Heap) (k : Ex → Env → Heap → Option β) (r : β) (hr : (Fref07_number_1 lref07_number_1).run e h k = some r) : ∃ x e' h', k x e' h' = some r ∧ CodeAt (addLp X 44 3 (Fref07_number_0 lref07_number_0)) (.loop (loopBody ((addLp X 44 3 (Fref07_number_0 lref07_number_0))).P 44 1)) e h x e' h' := by
  obtain ⟨fn, c, hin⟩ := loopIn_of (X := (addLp X 44 3 (Fref07_number_0 lref07_number_0))) (f := 44) (i := 1) (key := 7) (by kernel_rfl)
  simp only [Fref07_number_1] at hr
  split at hr
  · rename_i hlen
    have hlen := Nat.eq_of_beq_eq_true hlen
    split at hr
    · rename_i q0 q7 q9
      obtain ⟨o, ho, hr⟩ := optK_some hr
      refine tell_ok hX (KOk.congr (X := X) (Y := (addLp X 44 3 (Fref07_number_0 lref07_number_0))) rfl rfl hK) hin (E := Eref07_number_1) (H := Href07_number_1) (R := fun d r => Rref07_number_1 K d r) (T := Tref07_number_1) (ts := [(0, 1, 0), (1, 1, 0), (2, 1, 0)]) (len := 0) (cl := clref07_number_1) (clo := cloref07_number_1) (roundref07_number_1 K lref07_number_0) (natref07_number_1 K) outref07_number_1 (hl _ _ ho) (cl0 := clref07_number_1) (ts0 := []) ?_ rfl (by kernel_rfl) (by kernel_rfl) hr
      rw [clear_lit e 42 hlen, show clearEnv clref07_number_1 ((List.range 42).map fun i => e.getD i .dead) = [e.getD 0 .dead, .dead, .dead, .dead, .dead, .dead, .dead, e.getD 7 .dead, .dead, e.getD 9 .dead, .dead, .dead, .dead, .dead, .dead, .dead, .dead, .dead, .dead, .dead, .dead, .dead, .dead, .dead, .dead, .dead, .dead, .dead, .dead, .dead, .dead, .dead, .dead, .dead, .dead, .dead, .dead, .dead, .dead, .dead, .dead, .dead] from by kernel_rfl]; rw [q0, q7, q9]
      kernel_rfl
    · cases hr
  · cases hr
inductive Sref07_number_2 where
  | s0 (n7 : Int) (i10 : Int)

inductive Oref07_number_2 where
  | x0 (n7 : Int)

def Oref07_number_2.k {β : Type} (o : Oref07_number_2) (c0 : Int → Option β) : Option β := match o with
  | .x0 n7 => c0 n7

def Eref07_number_2 : Sref07_number_2 → Env
  | .s0 n7 i10 => [.dead, .dead, .dead, .dead, .dead, .dead, .dead, (.v (.int .i64 n7)), .dead, .dead, (.v (.int .i64 i10)), .dead, .dead, .dead, .dead, .dead, .dead, .dead, .dead, .dead, .dead, .dead, .dead, .dead, .dead, .dead, .dead, .dead, .dead, .dead, .dead, .dead, .dead, .dead, .dead, .dead, .dead, .dead, .dead, .dead, .dead, .dead]

def Href07_number_2 : Sref07_number_2 → Heap
  | .s0 n7 i10 => []

def Tref07_number_2 {β : Type} (k : Ex → Env → Heap → Option β) (o : Oref07_number_2) : Option β := Oref07_number_2.k o (fun n7 => k (.exit 4) [.dead, .dead, .dead, .dead, .dead, .dead, .dead, (.v (.int .i64 n7)), .dead, .dead, .dead, .dead, .dead, .dead, .dead, .dead, .dead, .dead, .dead, .dead, .dead, .dead, .dead, .dead, .dead, .dead, .dead, .dead, .dead, .dead, .dead, .dead, .dead, .dead, .dead, .dead, .dead, .dead, .dead, .dead, .dead, .dead] [])

def Fref07_number_2 (lref07_number_2 : Sref07_number_2 → Option Oref07_number_2) : LoopF := ⟨fun e h k => match Nat.beq e.length 42 with
  | true => (match e.getD 7 .dead, e.getD 10 .dead, h with
    | (.v (.int .i64 n7)), (.v (.int .i64 i10)), [] => optK (lref07_number_2 (.s0 n7 i10)) (Tref07_number_2 k)
    | _, _, _ => none)
  | false => none⟩

def clref07_number_2 : List Tmp := [0, 1, 2, 3, 4, 5, 6, 8, 9, 11, 12, 13, 14, 15, 16, 17, 18, 19, 20, 21, 22, 23, 24, 25, 26, 27, 28, 29, 30, 31, 32, 33, 34, 35, 36, 37, 38, 39, 40, 41]
def cloref07_number_2 : List Tmp := [0, 1, 2, 3, 4, 5, 6, 8, 9, 10, 11, 12, 13, 14, 15, 16, 17, 18, 19, 20, 21, 22, 23, 24, 25, 26, 27, 28, 29, 30, 31, 32, 33, 34, 35, 36, 37, 38, 39, 40, 41]

noncomputable def Rref07_number_2 {β : Type} (K : PureK) (d : Oref07_number_2 → Option β) (r : Sref07_number_2 → Option β) : Sref07_number_2 → Option β
  | .s0 n7 i10 =>
    br (decide (i10 < 1970))
      (optK (K f_ref07_length [iv i10]) fun wv1 =>
      Ab.asInt wv1 .i64 fun wn2 =>
      r (.s0 (w64 (n7 - wn2)) (w64 (i10 + 1))))
      (d (.x0 n7))
theorem roundref07_number_2 (K : PureK) (lref07_number_0 : Sref07_number_0 → Option Oref07_number_0) (lref07_number_1 : Sref07_number_1 → Option Oref07_number_1) {β : Type} (r : Env → Heap → Option β) (k : Ex → Env → Heap → Option β) (s : Sref07_number_2) : tellOne (addLp (addLp X 44 3 (Fref07_number_0 lref07_number_0)) 44 7 (Fref07_number_1 lref07_number_1)) K 0 44 2 [(0, 1, 0), (1, 1, 0), (2, 1, 0)] 0 clref07_number_2 cloref07_number_2 r k (Eref07_number_2 s) (Href07_number_2 s) = Rref07_number_2 K (Tref07_number_2 k) (fun s => r (Eref07_number_2 s) (Href07_number_2 s)) s := by
  cases s <;> kernel_rfl
theorem Oref07_number_2.bind_k {β γ : Type} (o : Oref07_number_2) (c0 : Int → Option β) (φ : β → Option γ) : (Oref07_number_2.k o c0).bind φ = Oref07_number_2.k o (fun n7 => (c0 n7).bind φ) := by cases o <;> rfl
theorem natref07_number_2 (K : PureK) {β γ : Type} (φ : β → Option γ) (d : Oref07_number_2 → Option β) (r : Sref07_number_2 → Option β) (s : Sref07_number_2) : Rref07_number_2 K (fun o => (d o).bind φ) (fun s => (r s).bind φ) s = (Rref07_number_2 K d r s).bind φ := by
  cases s <;> simp only [Rref07_number_2, bind_optK, bind_br, bind_asInt, bind_asBool, bind_asStr, bind_asLst, bind_asAgg, bind_asTup, bind_asBig, bind_asErr, bind_none]
theorem outref07_number_2 (o : Oref07_number_2) : ∃ x e' h', ∀ {β : Type} (k : Ex → Env → Heap → Option β), Tref07_number_2 k o = k x e' h' := by cases o <;> exact ⟨_, _, _, fun _ => rfl⟩
theorem okref07_number_2 {K : PureK} (lref07_number_0 : Sref07_number_0 → Option Oref07_number_0) (lref07_number_1 : Sref07_number_1 → Option Oref07_number_1) (hX : Sound (addLp (addLp X 44 3 (Fref07_number_0 lref07_number_0)) 44 7 (Fref07_number_1 lref07_number_1))) (hK : KOk X K) {lref07_number_2 : Sref07_number_2 → Option Oref07_number_2} (hl : ∀ s o, lref07_number_2 s = some o → ∃ m, fuelRec (Rref07_number_2 K some) m s = some o) (β : Type) (e : Env) (h : Heap) (k : Ex → Env → Heap → Option β) (r : β) (hr : (Fref07_number_2 lref07_number_2).run e h k = some r) : ∃ x e' h', k x e' h' = some r ∧ CodeAt (addLp (addLp X 44 3 (Fref07_number_0 lref07_number_0)) 44 7 (Fref07_number_1 lref07_number_1)) (.loop (loopBody ((addLp (addLp X 44 3 (Fref07_number_0 lref07_number_0)) 44 7 (Fref07_number_1 lref07_number_1))).P 44 2)) e h x e' h' := by
  obtain ⟨fn, c, hin⟩ := loopIn_of (X := (addLp (addLp X 44 3 (Fref07_number_0 lref07_number_0)) 44 7 (Fref07_number_1 lref07_number_1))) (f := 44) (i := 2) (key := 11) (by kernel_rfl)
  simp only [Fref07_number_2] at hr
  split at hr
  · rename_i hlen
    have hlen := Nat.eq_of_beq_eq_true hlen
    split at hr
    · rename_i q7 q10
      obtain ⟨o, ho, hr⟩ := optK_some hr
      refine tell_ok hX (KOk.congr (X := X) (Y := (addLp (addLp X 44 3 (Fref07_number_0 lref07_number_0)) 44 7 (Fref07_number_1 lref07_number_1))) rfl rfl hK) hin (E := Eref07_number_2) (H := Href07_number_2) (R := fun d r => Rref07_number_2 K d r) (T := Tref07_number_2) (ts := [(0, 1, 0), (1, 1, 0), (2, 1, 0)]) (len := 0) (cl := clref07_number_2) (clo := cloref07_number_2) (roundref07_number_2 K lref07_number_0 lref07_number_1) (natref07_number_2 K) outref07_number_2 (hl _ _ ho) (cl0 := clref07_number_2) (ts0 := []) ?_ rfl (by kernel_rfl) (by kernel_rfl) hr
      rw [clear_lit e 42 hlen, show clearEnv clref07_number_2 ((List.range 42).map fun i => e.getD i .dead) = [.dead, .dead, .dead, .dead, .dead, .dead, .dead, e.getD 7 .dead, .dead, .dead, e.getD 10 .dead, .dead, .dead, .dead, .dead, .dead, .dead, .dead, .dead, .dead, .dead, .dead, .dead, .dead, .dead, .dead, .dead, .dead, .dead, .dead, .dead, .dead, .dead, .dead, .dead, .dead, .dead, .dead, .dead, .dead, .dead, .dead] from by kernel_rfl]; rw [q7, q10]
      kernel_rfl
    · cases hr
  · cases hr
noncomputable def Rref07_number (K : PureK) (lref07_number_0 : Sref07_number_0 → Option Oref07_number_0) (lref07_number_1 : Sref07_number_1 → Option Oref07_number_1) (lref07_number_2 : Sref07_number_2 → Option Oref07_number_2) (y0 : Int) (m1 : Int) (d2 : Int) : Option AV :=
  optK (lref07_number_0 (Sref07_number_0.s0 y0 m1 (w64 (d2 - 1)) 1)) fun wo7 => Oref07_number_0.k wo7 (fun (y0_8 : Int) (n7_8 : Int) =>
    optK (lref07_number_1 (Sref07_number_1.s0 y0_8 n7_8 1970)) fun wo9 => Oref07_number_1.k wo9 (fun (y0_10 : Int) (n7_10 : Int) =>
    optK (lref07_number_2 (Sref07_number_2.s0 n7_10 y0_10)) fun wo11 => Oref07_number_2.k wo11 (fun (n7_12 : Int) =>
    some (iv n7_12))))
theorem topref07_number (K : PureK) (lref07_number_0 : Sref07_number_0 → Option Oref07_number_0) (lref07_number_1 : Sref07_number_1 → Option Oref07_number_1) (lref07_number_2 : Sref07_number_2 → Option Oref07_number_2) (y0 : Int) (m1 : Int) (d2 : Int) : topK (addLp (addLp (addLp X 44 3 (Fref07_number_0 lref07_number_0)) 44 7 (Fref07_number_1 lref07_number_1)) 44 11 (Fref07_number_2 lref07_number_2)) K 0 f_ref07_number [(.v (.int .i64 y0)), (.v (.int .i64 m1)), (.v (.int .i64 d2))] = Rref07_number K lref07_number_0 lref07_number_1 lref07_number_2 y0 m1 d2 := by kernel_rfl
theorem pcref07_number {K : PureK} (hK : KOk X K) {lref07_number_0 : Sref07_number_0 → Option Oref07_number_0} {lref07_number_1 : Sref07_number_1 → Option Oref07_number_1} {lref07_number_2 : Sref07_number_2 → Option Oref07_number_2} (href07_number_0 : ∀ s o, lref07_number_0 s = some o → ∃ m, fuelRec (Rref07_number_0 K some) m s = some o) (href07_number_1 : ∀ s o, lref07_number_1 s = some o → ∃ m, fuelRec (Rref07_number_1 K some) m s = some o) (href07_number_2 : ∀ s o, lref07_number_2 s = some o → ∃ m, fuelRec (Rref07_number_2 K some) m s = some o) {y0 : Int} {m1 : Int} {d2 : Int} {v : AV} (h : Rref07_number K lref07_number_0 lref07_number_1 lref07_number_2 y0 m1 d2 = some v) : PureCall X f_ref07_number [(.v (.int .i64 y0)), (.v (.int .i64 m1)), (.v (.int .i64 d2))] v := by
  have hSo0 := soundX
  obtain ⟨_, _, hin0⟩ := loopIn_of (X := X) (f := 44) (i := 0) (key := 3) (by kernel_rfl)
  have hSo1 := sound_add hSo0 hin0 (okref07_number_0 hSo0 hK href07_number_0)
  obtain ⟨_, _, hin1⟩ := loopIn_of (X := (addLp X 44 3 (Fref07_number_0 lref07_number_0))) (f := 44) (i := 1) (key := 7) (by kernel_rfl)
  have hSo2 := sound_add hSo1 hin1 (okref07_number_1 lref07_number_0 hSo1 hK href07_number_1)
  obtain ⟨_, _, hin2⟩ := loopIn_of (X := (addLp (addLp X 44 3 (Fref07_number_0 lref07_number_0)) 44 7 (Fref07_number_1 lref07_number_1))) (f := 44) (i := 2) (key := 11) (by kernel_rfl)
  have hSo3 := sound_add hSo2 hin2 (okref07_number_2 lref07_number_0 lref07_number_1 hSo2 hK href07_number_2)
  exact tell_top (X := X) (Y := (addLp (addLp (addLp X 44 3 (Fref07_number_0 lref07_number_0)) 44 7 (Fref07_number_1 lref07_number_1)) 44 11 (Fref07_number_2 lref07_number_2))) rfl rfl hSo3 hK ((topref07_number K lref07_number_0 lref07_number_1 lref07_number_2 y0 m1 d2).trans h)

/-! 19: escheat/escheatref07.Number -/
noncomputable def Rref07_Number (K : PureK) (y0 : Int) (m1 : Int) (d2 : Int) : Option AV :=
  optK (br (decide (y0 < 1970))
        (some (bv true))
        (optK (K f_ref07_there [iv y0, iv m1, iv d2]) fun wv2 =>
        Ab.asBool wv2 fun wb3 =>
        some (bv !wb3))) fun wv1 =>
    Ab.asBool wv1 fun wb4 =>
    br wb4
      (some (iv (-1)))
      (optK (K f_ref07_number [iv y0, iv m1, iv d2]) fun wv5 =>
      Ab.asInt wv5 .i64 fun wn6 =>
      some (iv wn6))
theorem topref07_Number (K : PureK) (y0 : Int) (m1 : Int) (d2 : Int) : topK X K 0 f_ref07_Number [(.v (.int .i64 y0)), (.v (.int .i64 m1)), (.v (.int .i64 d2))] = Rref07_Number K y0 m1 d2 := by kernel_rfl
theorem pcref07_Number {K : PureK} (hK : KOk X K) {y0 : Int} {m1 : Int} {d2 : Int} {v : AV} (h : Rref07_Number K y0 m1 d2 = some v) : PureCall X f_ref07_Number [(.v (.int .i64 y0)), (.v (.int .i64 m1)), (.v (.int .i64 d2))] v := by
  have hSo0 := soundX
  exact tell_top (X := X) (Y := X) rfl rfl hSo0 hK ((topref07_Number K y0 m1 d2).trans h)

/-! 17: escheat/escheatref07.Civil -/
inductive Sref07_Civil_0 where
  | s0 (day0 : Int) (y5 : Int) (m6 : Int)

inductive Oref07_Civil_0 where
  | x0 (day0 : Int) (y5 : Int) (m6 : Int)

def Oref07_Civil_0.k {β : Type} (o : Oref07_Civil_0) (c0 : Int → Int → Int → Option β) : Option β := match o with
  | .x0 day0 y5 m6 => c0 day0 y5 m6

def Eref07_Civil_0 : Sref07_Civil_0 → Env
  | .s0 day0 y5 m6 => [(.v (.int .i64 day0)), .dead, .dead, .dead, .dead, (.v (.int .i64 y5)), (.v (.int .i64 m6)), .dead, .dead, .dead, .dead, .dead, .dead, .dead, .dead, .dead, .dead, .dead, .dead, .dead, .dead, .dead, .dead, .dead, .dead, .dead, .dead, .dead, .dead, .dead, .dead, .dead, .dead, .dead, .dead, .dead, .dead, .dead, .dead]

def Href07_Civil_0 : Sref07_Civil_0 → Heap
  | .s0 day0 y5 m6 => []

def Tref07_Civil_0 {β : Type} (k : Ex → Env → Heap → Option β) (o : Oref07_Civil_0) : Option β := Oref07_Civil_0.k o (fun day0 y5 m6 => k (.exit 0) [(.v (.int .i64 day0)), .dead, .dead, .dead, .dead, (.v (.int .i64 y5)), (.v (.int .i64 m6)), .dead, .dead, .dead, .dead, .dead, .dead, .dead, .dead, .dead, .dead, .dead, .dead, .dead, .dead, .dead, .dead, .dead, .dead, .dead, .dead, .dead, .dead, .dead, .dead, .dead, .dead, .dead, .dead, .dead, .dead, .dead, .dead] [])

def Fref07_Civil_0 (lref07_Civil_0 : Sref07_Civil_0 → Option Oref07_Civil_0) : LoopF := ⟨fun e h k => match Nat.beq e.length 39 with
  | true => (match e.getD 0 .dead, e.getD 5 .dead, e.getD 6 .dead, h with
    | (.v (.int .i64 day0)), (.v (.int .i64 y5)), (.v (.int .i64 m6)), [] => optK (lref07_Civil_0 (.s0 day0 y5 m6)) (Tref07_Civil_0 k)
    | _, _, _, _ => none)
  | false => none⟩

def clref07_Civil_0 : List Tmp := [1, 2, 3, 4, 7, 8, 9, 10, 11, 12, 13, 14, 15, 16, 17, 18, 19, 20, 21, 22, 23, 24, 25, 26, 27, 28, 29, 30, 31, 32, 33, 34, 35, 36, 37, 38]
def cloref07_Civil_0 : List Tmp := [1, 2, 3, 4, 7, 8, 9, 10, 11, 12, 13, 14, 15, 16, 17, 18, 19, 20, 21, 22, 23, 24, 25, 26, 27, 28, 29, 30, 31, 32, 33, 34, 35, 36, 37, 38]

noncomputable def Rref07_Civil_0 {β : Type} (K : PureK) (d : Oref07_Civil_0 → Option β) (r : Sref07_Civil_0 → Option β) : Sref07_Civil_0 → Option β
  | .s0 day0 y5 m6 =>
    optK (K f_ref07_length [iv y5]) fun wv1 =>
    Ab.asInt wv1 .i64 fun wn2 =>
    br (decide (day0 ≥ wn2))
      (optK (K f_ref07_length [iv y5]) fun wv3 =>
      Ab.asInt wv3 .i64 fun wn4 =>
      r (.s0 (w64 (day0 - wn4)) (w64 (y5 + 1)) m6))
      (d (.x0 day0 y5 m6))
theorem roundref07_Civil_0 (K : PureK) {β : Type} (r : Env → Heap → Option β) (k : Ex → Env → Heap → Option β) (s : Sref07_Civil_0) : tellOne X K 0 17 0 [(0, 1, 0), (1, 1, 0), (2, 1, 0)] 0 clref07_Civil_0 cloref07_Civil_0 r k (Eref07_Civil_0 s) (Href07_Civil_0 s) = Rref07_Civil_0 K (Tref07_Civil_0 k) (fun s => r (Eref07_Civil_0 s) (Href07_Civil_0 s)) s := by
  cases s <;> kernel_rfl
theorem Oref07_Civil_0.bind_k {β γ : Type} (o : Oref07_Civil_0) (c0 : Int → Int → Int → Option β) (φ : β → Option γ) : (Oref07_Civil_0.k o c0).bind φ = Oref07_Civil_0.k o (fun day0 y5 m6 => (c0 day0 y5 m6).bind φ) := by cases o <;> rfl
theorem natref07_Civil_0 (K : PureK) {β γ : Type} (φ : β → Option γ) (d : Oref07_Civil_0 → Option β) (r : Sref07_Civil_0 → Option β) (s : Sref07_Civil_0) : Rref07_Civil_0 K (fun o => (d o).bind φ) (fun s => (r s).bind φ) s = (Rref07_Civil_0 K d r s).bind φ := by
  cases s <;> simp only [Rref07_Civil_0, bind_optK, bind_br, bind_asInt, bind_asBool, bind_asStr, bind_asLst, bind_asAgg, bind_asTup, bind_asBig, bind_asErr, bind_none]
theorem outref07_Civil_0 (o : Oref07_Civil_0) : ∃ x e' h', ∀ {β : Type} (k : Ex → Env → Heap → Option β), Tref07_Civil_0 k o = k x e' h' := by cases o <;> exact ⟨_, _, _, fun _ => rfl⟩
theorem okref07_Civil_0 {K : PureK} (hX : Sound X) (hK : KOk X K) {lref07_Civil_0 : Sref07_Civil_0 → Option Oref07_Civil_0} (hl : ∀ s o, lref07_Civil_0 s = some o → ∃ m, fuelRec (Rref07_Civil_0 K some) m s = some o) (β : Type) (e : Env) (h : Heap) (k : Ex → Env → Heap → Option β) (r : β) (hr : (Fref07_Civil_0 lref07_Civil_0).run e h k = some r) : ∃ x e' h', k x e' h' = some r ∧ CodeAt X (.loop (loopBody (X).P 17 0)) e h x e' h' := by
  obtain ⟨fn, c, hin⟩ := loopIn_of (X := X) (f := 17) (i := 0) (key := 4) (by kernel_rfl)
  simp only [Fref07_Civil_0] at hr
  split at hr
  · rename_i hlen
    have hlen := Nat.eq_of_beq_eq_true hlen
    split at hr
    · rename_i q0 q5 q6
      obtain ⟨o, ho, hr⟩ := optK_some hr
      refine tell_ok hX (KOk.congr (X := X) (Y := X) rfl rfl hK) hin (E := Eref07_Civil_0) (H := Href07_Civil_0) (R := fun d r => Rref07_Civil_0 K d r) (T := Tref07_Civil_0) (ts := [(0, 1, 0), (1, 1, 0), (2, 1, 0)]) (len := 0) (cl := clref07_Civil_0) (clo := cloref07_Civil_0) (roundref07_Civil_0 K) (natref07_Civil_0 K) outref07_Civil_0 (hl _ _ ho) (cl0 := clref07_Civil_0) (ts0 := []) ?_ rfl (by kernel_rfl) (by kernel_rfl) hr
      rw [clear_lit e 39 hlen, show clearEnv clref07_Civil_0 ((List.range 39).map fun i => e.getD i .dead) = [e.getD 0 .dead, .dead, .dead, .dead, .dead, e.getD 5 .dead, e.getD 6 .dead, .dead, .dead, .dead, .dead, .dead, .dead, .dead, .dead, .dead, .dead, .dead, .dead, .dead, .dead, .dead, .dead, .dead, .dead, .dead, .dead, .dead, .dead, .dead, .dead, .dead, .dead, .dead, .dead, .dead, .dead, .dead, .dead] from by kernel_rfl]; rw [q0, q5, q6]
      kernel_rfl
    · cases hr
  · cases hr
inductive Sref07_Civil_1 where
  | s0 (day0 : Int) (y5 : Int) (m6 : Int)

inductive Oref07_Civil_1 where
  | x0 (day0 : Int) (y5 : Int) (m6 : Int)

def Oref07_Civil_1.k {β : Type} (o : Oref07_Civil_1) (c0 : Int → Int → Int → Option β) : Option β := match o with
  | .x0 day0 y5 m6 => c0 day0 y5 m6

def Eref07_Civil_1 : Sref07_Civil_1 → Env
  | .s0 day0 y5 m6 => [(.v (.int .i64 day0)), .dead, .dead, .dead, .dead, (.v (.int .i64 y5)), (.v (.int .i64 m6)), .dead, .dead, .dead, .dead, .dead, .dead, .dead, .dead, .dead, .dead, .dead, .dead, .dead, .dead, .dead, .dead, .dead, .dead, .dead, .dead, .dead, .dead, .dead, .dead, .dead, .dead, .dead, .dead, .dead, .dead, .dead, .dead]

def Href07_Civil_1 : Sref07_Civil_1 → Heap
  | .s0 day0 y5 m6 => []

def Tref07_Civil_1 {β : Type} (k : Ex → Env → Heap → Option β) (o : Oref07_Civil_1) : Option β := Oref07_Civil_1.k o (fun day0 y5 m6 => k (.exit 2) [(.v (.int .i64 day0)), .dead, .dead, .dead, .dead, (.v (.int .i64 y5)), (.v (.int .i64 m6)), .dead, .dead, .dead, .dead, .dead, .dead, .dead, .dead, .dead, .dead, .dead, .dead, .dead, .dead, .dead, .dead, .dead, .dead, .dead, .dead, .dead, .dead, .dead, .dead, .dead, .dead, .dead, .dead, .dead, .dead, .dead, .dead] [])

def Fref07_Civil_1 (lref07_Civil_1 : Sref07_Civil_1 → Option Oref07_Civil_1) : LoopF := ⟨fun e h k => match Nat.beq e.length 39 with
  | true => (match e.getD 0 .dead, e.getD 5 .dead, e.getD 6 .dead, h with
    | (.v (.int .i64 day0)), (.v (.int .i64 y5)), (.v (.int .i64 m6)), [] => optK (lref07_Civil_1 (.s0 day0 y5 m6)) (Tref07_Civil_1 k)
    | _, _, _, _ => none)
  | false => none⟩

def clref07_Civil_1 : List Tmp := [1, 2, 3, 4, 7, 8, 9, 10, 11, 12, 13, 14, 15, 16, 17, 18, 19, 20, 21, 22, 23, 24, 25, 26, 27, 28, 29, 30, 31, 32, 33, 34, 35, 36, 37, 38]
def cloref07_Civil_1 : List Tmp := [1, 2, 3, 4, 7, 8, 9, 10, 11, 12, 13, 14, 15, 16, 17, 18, 19, 20, 21, 22, 23, 24, 25, 26, 27, 28, 29, 30, 31, 32, 33, 34, 35, 36, 37, 38]

noncomputable def Rref07_Civil_1 {β : Type} (K : PureK) (d : Oref07_Civil_1 → Option β) (r : Sref07_Civil_1 → Option β) : Sref07_Civil_1 → Option β
  | .s0 day0 y5 m6 =>
    optK (K f_ref07_days [iv y5, iv m6]) fun wv1 =>
    Ab.asInt wv1 .i64 fun wn2 =>
    br (decide (day0 ≥ wn2))
      (optK (K f_ref07_days [iv y5, iv m6]) fun wv3 =>
      Ab.asInt wv3 .i64 fun wn4 =>
      r (.s0 (w64 (day0 - wn4)) y5 (w64 (m6 + 1))))
      (d (.x0 day0 y5 m6))
theorem roundref07_Civil_1 (K : PureK) (lref07_Civil_0 : Sref07_Civil_0 → Option Oref07_Civil_0) {β : Type} (r : Env → Heap → Option β) (k : Ex → Env → Heap → Option β) (s : Sref07_Civil_1) : tellOne (addLp X 17 4 (Fref07_Civil_0 lref07_Civil_0)) K 0 17 1 [(0, 1, 0), (1, 1, 0), (2, 1, 0)] 0 clref07_Civil_1 cloref07_Civil_1 r k (Eref07_Civil_1 s) (Href07_Civil_1 s) = Rref07_Civil_1 K (Tref07_Civil_1 k) (fun s => r (Eref07_Civil_1 s) (Href07_Civil_1 s)) s := by
  cases s <;> kernel_rfl
theorem Oref07_Civil_1.bind_k {β γ : Type} (o : Oref07_Civil_1) (c0 : Int → Int → Int → Option β) (φ : β → Option γ) : (Oref07_Civil_1.k o c0).bind φ = Oref07_Civil_1.k o (fun day0 y5 m6 => (c0 day0 y5 m6).bind φ) := by cases o <;> rfl
theorem natref07_Civil_1 (K : PureK) {β γ : Type} (φ : β → Option γ) (d : Oref07_Civil_1 → Option β) (r : Sref07_Civil_1 → Option β) (s : Sref07_Civil_1) : Rref07_Civil_1 K (fun o => (d o).bind φ) (fun s => (r s).bind φ) s = (Rref07_Civil_1 K d r s).bind φ := by
  cases s <;> simp only [Rref07_Civil_1, bind_optK, bind_br, bind_asInt, bind_asBool, bind_asStr, bind_asLst, bind_asAgg, bind_asTup, bind_asBig, bind_asErr, bind_none]
theorem outref07_Civil_1 (o : Oref07_Civil_1) : ∃ x e' h', ∀ {β : Type} (k : Ex → Env → Heap → Option β), Tref07_Civil_1 k o = k x e' h' := by cases o <;> exact ⟨_, _, _, fun _ => rfl⟩
theorem okref07_Civil_1 {K : PureK} (lref07_Civil_0 : Sref07_Civil_0 → Option Oref07_Civil_0) (hX : Sound (addLp X 17 4 (Fref07_Civil_0 lref07_Civil_0))) (hK : KOk X K) {lref07_Civil_1 : Sref07_Civil_1 → Option Oref07_Civil_1} (hl : ∀ s o, lref07_Civil_1 s = some o → ∃ m, fuelRec (Rref07_Civil_1 K some) m s = some o) (β : Type) (e : Env) (h : Heap) (k : Ex → Env → Heap → Option β) (r : β) (hr : (Fref07_Civil_1 lref07_Civil_1).run e h k = some r) : ∃ x e' h', k x e' h' = some r ∧ CodeAt (addLp X 17 4 (Fref07_Civil_0 lref07_Civil_0)) (.loop (loopBody ((addLp X 17 4 (Fref07_Civil_0 lref07_Civil_0))).P 17 1)) e h x e' h' := by
  obtain ⟨fn, c, hin⟩ := loopIn_of (X := (addLp X 17 4 (Fref07_Civil_0 lref07_Civil_0))) (f := 17) (i := 1) (key := 7) (by kernel_rfl)
  simp only [Fref07_Civil_1] at hr
  split at hr
  · rename_i hlen
    have hlen := Nat.eq_of_beq_eq_true hlen
    split at hr
    · rename_i q0 q5 q6
      obtain ⟨o, ho, hr⟩ := optK_some hr
      refine tell_ok hX (KOk.congr (X := X) (Y := (addLp X 17 4 (Fref07_Civil_0 lref07_Civil_0))) rfl rfl hK) hin (E := Eref07_Civil_1) (H := Href07_Civil_1) (R := fun d r => Rref07_Civil_1 K d r) (T := Tref07_Civil_1) (ts := [(0, 1, 0), (1, 1, 0), (2, 1, 0)]) (len := 0) (cl := clref07_Civil_1) (clo := cloref07_Civil_1) (roundref07_Civil_1 K lref07_Civil_0) (natref07_Civil_1 K) outref07_Civil_1 (hl _ _ ho) (cl0 := clref07_Civil_1) (ts0 := []) ?_ rfl (by kernel_rfl) (by kernel_rfl) hr
      rw [clear_lit e 39 hlen, show clearEnv clref07_Civil_1 ((List.range 39).map fun i => e.getD i .dead) = [e.getD 0 .dead, .dead, .dead, .dead, .dead, e.getD 5 .dead, e.getD 6 .dead, .dead, .dead, .dead, .dead, .dead, .dead, .dead, .dead, .dead, .dead, .dead, .dead, .dead, .dead, .dead, .dead, .dead, .dead, .dead, .dead, .dead, .dead, .dead, .dead, .dead, .dead, .dead, .dead, .dead, .dead, .dead, .dead] from by kernel_rfl]; rw [q0, q5, q6]
      kernel_rfl
    · cases hr
  · cases hr
noncomputable def Rref07_Civil (K : PureK) (lref07_Civil_0 : Sref07_Civil_0 → Option Oref07_Civil_0) (lref07_Civil_1 : Sref07_Civil_1 → Option Oref07_Civil_1) (day0 : Int) : Option AV :=
  optK (br (decide (day0 < 0))
        (some (bv true))
        (some (bv (decide (day0 > 2932896))))) fun wv7 =>
    Ab.asBool wv7 fun wb8 =>
    br wb8
      (some (AV.tup [iv 0, iv 0, iv 0]))
      (optK (lref07_Civil_0 (Sref07_Civil_0.s0 day0 1970 1)) fun wo9 => Oref07_Civil_0.k wo9 (fun (day0_10 : Int) (y5_10 : Int) (m6_10 : Int) =>
      optK (lref07_Civil_1 (Sref07_Civil_1.s0 day0_10 y5_10 m6_10)) fun wo11 => Oref07_Civil_1.k wo11 (fun (day0_12 : Int) (y5_12 : Int) (m6_12 : Int) =>
      some (AV.tup [iv y5_12, iv m6_12, iv (w64 (day0_12 + 1))]))))
theorem topref07_Civil (K : PureK) (lref07_Civil_0 : Sref07_Civil_0 → Option Oref07_Civil_0) (lref07_Civil_1 : Sref07_Civil_1 → Option Oref07_Civil_1) (day0 : Int) : topK (addLp (addLp X 17 4 (Fref07_Civil_0 lref07_Civil_0)) 17 7 (Fref07_Civil_1 lref07_Civil_1)) K 0 f_ref07_Civil [(.v (.int .i64 day0))] = Rref07_Civil K lref07_Civil_0 lref07_Civil_1 day0 := by kernel_rfl
theorem pcref07_Civil {K : PureK} (hK : KOk X K) {lref07_Civil_0 : Sref07_Civil_0 → Option Oref07_Civil_0} {lref07_Civil_1 : Sref07_Civil_1 → Option Oref07_Civil_1} (href07_Civil_0 : ∀ s o, lref07_Civil_0 s = some o → ∃ m, fuelRec (Rref07_Civil_0 K some) m s = some o) (href07_Civil_1 : ∀ s o, lref07_Civil_1 s = some o → ∃ m, fuelRec (Rref07_Civil_1 K some) m s = some o) {day0 : Int} {v : AV} (h : Rref07_Civil K lref07_Civil_0 lref07_Civil_1 day0 = some v) : PureCall X f_ref07_Civil [(.v (.int .i64 day0))] v := by
  have hSo0 := soundX
  obtain ⟨_, _, hin0⟩ := loopIn_of (X := X) (f := 17) (i := 0) (key := 4) (by kernel_rfl)
  have hSo1 := sound_add hSo0 hin0 (okref07_Civil_0 hSo0 hK href07_Civil_0)
  obtain ⟨_, _, hin1⟩ := loopIn_of (X := (addLp X 17 4 (Fref07_Civil_0 lref07_Civil_0))) (f := 17) (i := 1) (key := 7) (by kernel_rfl)
  have hSo2 := sound_add hSo1 hin1 (okref07_Civil_1 lref07_Civil_0 hSo1 hK href07_Civil_1)
  exact tell_top (X := X) (Y := (addLp (addLp X 17 4 (Fref07_Civil_0 lref07_Civil_0)) 17 7 (Fref07_Civil_1 lref07_Civil_1))) rfl rfl hSo2 hK ((topref07_Civil K lref07_Civil_0 lref07_Civil_1 day0).trans h)

end Go.Proofs.YtmiffikcnkgcpaaGreatDoor
