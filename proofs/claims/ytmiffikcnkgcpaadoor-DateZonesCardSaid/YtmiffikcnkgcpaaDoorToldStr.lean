import Derived.Test.YtmiffikcnkgcpaaDoorCtx
set_option maxRecDepth 100000
set_option linter.unusedVariables false
set_option linter.unusedSimpArgs false
namespace Go.Proofs.YtmiffikcnkgcpaaDoor
open Go Go.Ab
/-! 14: strings.Split -/
noncomputable def Rstrings_Split (K : PureK) (s0 : ByteArray) (sep1 : ByteArray) : Option AV :=
  optK (K f_strings_genSplit [sv s0, sv sep1, iv 0, iv (-1)]) fun wv1 =>
    Ab.asLst wv1 1 fun wb2 wr2 =>
    some (AV.lst 1 wb2 wr2)
theorem topstrings_Split (K : PureK) (s0 : ByteArray) (sep1 : ByteArray) : topK X K 0 f_strings_Split [(.v (.string s0)), (.v (.string sep1))] = Rstrings_Split K s0 sep1 := by kernel_rfl
theorem pcstrings_Split {K : PureK} (hK : KOk X K) {s0 : ByteArray} {sep1 : ByteArray} {v : AV} (h : Rstrings_Split K s0 sep1 = some v) : PureCall X f_strings_Split [(.v (.string s0)), (.v (.string sep1))] v := by
  have hSo0 := soundX
  exact tell_top (X := X) (Y := X) rfl rfl hSo0 hK ((topstrings_Split K s0 sep1).trans h)

/-! 26: strings.genSplit -/
inductive Sstrings_genSplit_0 where
  | s0 (s0 : ByteArray) (sep1 : ByteArray) (sepSave2 : Int) (n3 : Int) (i10 : Int) (obj0 : List AV)

inductive Ostrings_genSplit_0 where
  | x0 (s0 : ByteArray) (i10 : Int) (obj0 : List AV)

def Ostrings_genSplit_0.k {β : Type} (o : Ostrings_genSplit_0) (c0 : ByteArray → Int → (List AV) → Option β) : Option β := match o with
  | .x0 s0 i10 obj0 => c0 s0 i10 obj0

def Estrings_genSplit_0 : Sstrings_genSplit_0 → Env
  | .s0 s0 sep1 sepSave2 n3 i10 obj0 => [(.v (.string s0)), (.v (.string sep1)), (.v (.int .i64 sepSave2)), (.v (.int .i64 n3)), .dead, .dead, .dead, .dead, .dead, (.own 0 0 0 none), (.v (.int .i64 i10)), .dead, .dead, .dead, .dead, .dead, .dead, .dead, .dead, .dead, .dead, .dead, .dead, .dead, .dead, .dead, .dead, .dead, .dead, .dead, .dead, .dead, .dead, .dead, .dead, .dead, .dead, .dead, .dead, .dead, .dead, .dead, .dead, .dead, .dead, .dead, .dead, .dead, .dead, .dead, .dead, .dead, .dead, .dead, .dead, .dead, .dead, .dead, .dead, .dead, .dead, .dead, .dead, .dead, .dead, .dead]

def Hstrings_genSplit_0 : Sstrings_genSplit_0 → Heap
  | .s0 s0 sep1 sepSave2 n3 i10 obj0 => [⟨obj0, 0, 0, true, false, 9, 1, none⟩]

def Tstrings_genSplit_0 {β : Type} (k : Ex → Env → Heap → Option β) (o : Ostrings_genSplit_0) : Option β := Ostrings_genSplit_0.k o (fun s0 i10 obj0 => k (.exit 0) [(.v (.string s0)), .dead, .dead, .dead, .dead, .dead, .dead, .dead, .dead, (.own 0 0 0 none), (.v (.int .i64 i10)), .dead, .dead, .dead, .dead, .dead, .dead, .dead, .dead, .dead, .dead, .dead, .dead, .dead, .dead, .dead, .dead, .dead, .dead, .dead, .dead, .dead, .dead, .dead, .dead, .dead, .dead, .dead, .dead, .dead, .dead, .dead, .dead, .dead, .dead, .dead, .dead, .dead, .dead, .dead, .dead, .dead, .dead, .dead, .dead, .dead, .dead, .dead, .dead, .dead, .dead, .dead, .dead, .dead, .dead, .dead] [⟨obj0, 0, 0, true, false, 9, 1, none⟩])

def Fstrings_genSplit_0 (lstrings_genSplit_0 : Sstrings_genSplit_0 → Option Ostrings_genSplit_0) : LoopF := ⟨fun e h k => match Nat.beq e.length 66 with
  | true => (match e.getD 0 .dead, e.getD 1 .dead, e.getD 2 .dead, e.getD 3 .dead, e.getD 9 .dead, e.getD 10 .dead, h with
    | (.v (.string s0)), (.v (.string sep1)), (.v (.int .i64 sepSave2)), (.v (.int .i64 n3)), (.own 0 0 0 none), (.v (.int .i64 i10)), [⟨obj0, 0, 0, true, false, 9, 1, none⟩] => optK (lstrings_genSplit_0 (.s0 s0 sep1 sepSave2 n3 i10 obj0)) (Tstrings_genSplit_0 k)
    | _, _, _, _, _, _, _ => none)
  | false => none⟩

def clstrings_genSplit_0 : List Tmp := [4, 5, 6, 7, 8, 11, 12, 13, 14, 15, 16, 17, 18, 19, 20, 21, 22, 23, 24, 25, 26, 27, 28, 29, 30, 31, 32, 33, 34, 35, 36, 37, 38, 39, 40, 41, 42, 43, 44, 45, 46, 47, 48, 49, 50, 51, 52, 53, 54, 55, 56, 57, 58, 59, 60, 61, 62, 63, 64, 65]
def clostrings_genSplit_0 : List Tmp := [1, 2, 3, 4, 5, 6, 7, 8, 11, 12, 13, 14, 15, 16, 17, 18, 19, 20, 21, 22, 23, 24, 25, 26, 27, 28, 29, 30, 31, 32, 33, 34, 35, 36, 37, 38, 39, 40, 41, 42, 43, 44, 45, 46, 47, 48, 49, 50, 51, 52, 53, 54, 55, 56, 57, 58, 59, 60, 61, 62, 63, 64, 65]

noncomputable def Rstrings_genSplit_0 {β : Type} (K : PureK) (d : Ostrings_genSplit_0 → Option β) (r : Sstrings_genSplit_0 → Option β) : Sstrings_genSplit_0 → Option β
  | .s0 s0 sep1 sepSave2 n3 i10 obj0 =>
    br (decide (i10 < n3))
      (optK (K f_strings_Index [sv s0, sv sep1]) fun wv1 =>
      Ab.asInt wv1 .i64 fun wn2 =>
      br (decide (wn2 < 0))
        (d (.x0 s0 i10 obj0))
        (br (decide (0 ≤ w64 (wn2 + sepSave2)))
          (br (decide (w64 (wn2 + sepSave2) ≤ ((s0.size : Nat) : Int)))
            (br (decide (0 ≤ i10))
              (br (decide (i10 < ((obj0.length : Nat) : Int)))
                (br (decide (0 ≤ w64 (wn2 + ((sep1.size : Nat) : Int))))
                  (br (decide (w64 (wn2 + ((sep1.size : Nat) : Int)) ≤ ((s0.size : Nat) : Int)))
                    (r (.s0 (cutStr s0 (some (w64 (wn2 + ((sep1.size : Nat) : Int)))) none) sep1 sepSave2 n3 (w64 (i10 + 1)) (obj0.set (0 + i10.toNat) (sv (cutStr s0 none (some (w64 (wn2 + sepSave2))))))))
                    (none))
                  (none))
                (none))
              (none))
            (none))
          (none)))
      (d (.x0 s0 i10 obj0))
theorem roundstrings_genSplit_0 (K : PureK) {β : Type} (r : Env → Heap → Option β) (k : Ex → Env → Heap → Option β) (s : Sstrings_genSplit_0) : tellOne X K 0 26 0 [(1, 1, 0), (2, 1, 0), (3, 1, 0)] 1 clstrings_genSplit_0 clostrings_genSplit_0 r k (Estrings_genSplit_0 s) (Hstrings_genSplit_0 s) = Rstrings_genSplit_0 K (Tstrings_genSplit_0 k) (fun s => r (Estrings_genSplit_0 s) (Hstrings_genSplit_0 s)) s := by
  cases s <;> kernel_rfl
theorem Ostrings_genSplit_0.bind_k {β γ : Type} (o : Ostrings_genSplit_0) (c0 : ByteArray → Int → (List AV) → Option β) (φ : β → Option γ) : (Ostrings_genSplit_0.k o c0).bind φ = Ostrings_genSplit_0.k o (fun s0 i10 obj0 => (c0 s0 i10 obj0).bind φ) := by cases o <;> rfl
theorem natstrings_genSplit_0 (K : PureK) {β γ : Type} (φ : β → Option γ) (d : Ostrings_genSplit_0 → Option β) (r : Sstrings_genSplit_0 → Option β) (s : Sstrings_genSplit_0) : Rstrings_genSplit_0 K (fun o => (d o).bind φ) (fun s => (r s).bind φ) s = (Rstrings_genSplit_0 K d r s).bind φ := by
  cases s <;> simp only [Rstrings_genSplit_0, bind_optK, bind_br, bind_asInt, bind_asBool, bind_asStr, bind_asLst, bind_asAgg, bind_asTup, bind_asBig, bind_asErr, bind_none]
theorem outstrings_genSplit_0 (o : Ostrings_genSplit_0) : ∃ x e' h', ∀ {β : Type} (k : Ex → Env → Heap → Option β), Tstrings_genSplit_0 k o = k x e' h' := by cases o <;> exact ⟨_, _, _, fun _ => rfl⟩
theorem okstrings_genSplit_0 {K : PureK} (hX : Sound X) (hK : KOk X K) {lstrings_genSplit_0 : Sstrings_genSplit_0 → Option Ostrings_genSplit_0} (hl : ∀ s o, lstrings_genSplit_0 s = some o → ∃ m, fuelRec (Rstrings_genSplit_0 K some) m s = some o) (β : Type) (e : Env) (h : Heap) (k : Ex → Env → Heap → Option β) (r : β) (hr : (Fstrings_genSplit_0 lstrings_genSplit_0).run e h k = some r) : ∃ x e' h', k x e' h' = some r ∧ CodeAt X (.loop (loopBody (X).P 26 0)) e h x e' h' := by
  obtain ⟨fn, c, hin⟩ := loopIn_of (X := X) (f := 26) (i := 0) (key := 11) (by kernel_rfl)
  simp only [Fstrings_genSplit_0] at hr
  split at hr
  · rename_i hlen
    have hlen := Nat.eq_of_beq_eq_true hlen
    split at hr
    · rename_i q0 q1 q2 q3 q9 q10
      obtain ⟨o, ho, hr⟩ := optK_some hr
      refine tell_ok hX (KOk.congr (X := X) (Y := X) rfl rfl hK) hin (E := Estrings_genSplit_0) (H := Hstrings_genSplit_0) (R := fun d r => Rstrings_genSplit_0 K d r) (T := Tstrings_genSplit_0) (ts := [(1, 1, 0), (2, 1, 0), (3, 1, 0)]) (len := 1) (cl := clstrings_genSplit_0) (clo := clostrings_genSplit_0) (roundstrings_genSplit_0 K) (natstrings_genSplit_0 K) outstrings_genSplit_0 (hl _ _ ho) (cl0 := clstrings_genSplit_0) (ts0 := []) ?_ rfl (by kernel_rfl) (by kernel_rfl) hr
      rw [clear_lit e 66 hlen, show clearEnv clstrings_genSplit_0 ((List.range 66).map fun i => e.getD i .dead) = [e.getD 0 .dead, e.getD 1 .dead, e.getD 2 .dead, e.getD 3 .dead, .dead, .dead, .dead, .dead, .dead, e.getD 9 .dead, e.getD 10 .dead, .dead, .dead, .dead, .dead, .dead, .dead, .dead, .dead, .dead, .dead, .dead, .dead, .dead, .dead, .dead, .dead, .dead, .dead, .dead, .dead, .dead, .dead, .dead, .dead, .dead, .dead, .dead, .dead, .dead, .dead, .dead, .dead, .dead, .dead, .dead, .dead, .dead, .dead, .dead, .dead, .dead, .dead, .dead, .dead, .dead, .dead, .dead, .dead, .dead, .dead, .dead, .dead, .dead, .dead, .dead] from by kernel_rfl]; rw [q0, q1, q2, q3, q9, q10]
      kernel_rfl
    · cases hr
  · cases hr
noncomputable def Rstrings_genSplit (K : PureK) (lstrings_genSplit_0 : Sstrings_genSplit_0 → Option Ostrings_genSplit_0) (s0 : ByteArray) (sep1 : ByteArray) (sepSave2 : Int) (n3 : Int) : Option AV :=
  br (n3 == 0)
      (some (AV.lst 1 true []))
      (br (strEq sep1 { data := #[] })
        (optK (K f_strings_explode [sv s0, iv n3]) fun wv5 =>
        Ab.asLst wv5 1 fun wb6 wr6 =>
        some (AV.lst 1 wb6 wr6))
        (br (decide (n3 < 0))
          (optK (K f_strings_Count [sv s0, sv sep1]) fun wv7 =>
          Ab.asInt wv7 .i64 fun wn8 =>
          br (decide (0 ≤ if w64 (((s0.size : Nat) : Int) + 1) < w64 (wn8 + 1) then w64 (((s0.size : Nat) : Int) + 1) else w64 (wn8 + 1)))
            (br (decide ((if w64 (((s0.size : Nat) : Int) + 1) < w64 (wn8 + 1) then w64 (((s0.size : Nat) : Int) + 1) else w64 (wn8 + 1)) ≤ if w64 (((s0.size : Nat) : Int) + 1) < w64 (wn8 + 1) then w64 (((s0.size : Nat) : Int) + 1) else w64 (wn8 + 1)))
              (br (lenOk (if w64 (((s0.size : Nat) : Int) + 1) < w64 (wn8 + 1) then w64 (((s0.size : Nat) : Int) + 1) else w64 (wn8 + 1)).toNat 16 && lenOk (if w64 (((s0.size : Nat) : Int) + 1) < w64 (wn8 + 1) then w64 (((s0.size : Nat) : Int) + 1) else w64 (wn8 + 1)).toNat 1)
                (optK (lstrings_genSplit_0 (Sstrings_genSplit_0.s0 s0 sep1 sepSave2 (w64 ((if w64 (((s0.size : Nat) : Int) + 1) < w64 (wn8 + 1) then w64 (((s0.size : Nat) : Int) + 1) else w64 (wn8 + 1)) - 1)) 0 (List.replicate (if w64 (((s0.size : Nat) : Int) + 1) < w64 (wn8 + 1) then w64 (((s0.size : Nat) : Int) + 1) else w64 (wn8 + 1)).toNat (sv { data := #[] })))) fun wo9 => Ostrings_genSplit_0.k wo9 (fun (s0_10 : ByteArray) (i10_10 : Int) (obj0_10 : List AV) =>
                br (decide (0 ≤ i10_10))
                  (br (decide (i10_10 < ((obj0_10.length : Nat) : Int)))
                    (br (decide (0 ≤ w64 (i10_10 + 1)))
                      (br (decide (w64 (i10_10 + 1) ≤ (((obj0_10.set (0 + i10_10.toNat) (sv s0_10)).length : Nat) : Int)))
                        (some (AV.lst 1 false (List.take (w64 (i10_10 + 1)).toNat (obj0_10.set (0 + i10_10.toNat) (sv s0_10)))))
                        (none))
                      (none))
                    (none))
                  (none)))
                (none))
              (none))
            (none))
          (br (decide (0 ≤ if w64 (((s0.size : Nat) : Int) + 1) < n3 then w64 (((s0.size : Nat) : Int) + 1) else n3))
            (br (decide ((if w64 (((s0.size : Nat) : Int) + 1) < n3 then w64 (((s0.size : Nat) : Int) + 1) else n3) ≤ if w64 (((s0.size : Nat) : Int) + 1) < n3 then w64 (((s0.size : Nat) : Int) + 1) else n3))
              (br (lenOk (if w64 (((s0.size : Nat) : Int) + 1) < n3 then w64 (((s0.size : Nat) : Int) + 1) else n3).toNat 16 && lenOk (if w64 (((s0.size : Nat) : Int) + 1) < n3 then w64 (((s0.size : Nat) : Int) + 1) else n3).toNat 1)
                (optK (lstrings_genSplit_0 (Sstrings_genSplit_0.s0 s0 sep1 sepSave2 (w64 ((if w64 (((s0.size : Nat) : Int) + 1) < n3 then w64 (((s0.size : Nat) : Int) + 1) else n3) - 1)) 0 (List.replicate (if w64 (((s0.size : Nat) : Int) + 1) < n3 then w64 (((s0.size : Nat) : Int) + 1) else n3).toNat (sv { data := #[] })))) fun wo11 => Ostrings_genSplit_0.k wo11 (fun (s0_12 : ByteArray) (i10_12 : Int) (obj0_12 : List AV) =>
                br (decide (0 ≤ i10_12))
                  (br (decide (i10_12 < ((obj0_12.length : Nat) : Int)))
                    (br (decide (0 ≤ w64 (i10_12 + 1)))
                      (br (decide (w64 (i10_12 + 1) ≤ (((obj0_12.set (0 + i10_12.toNat) (sv s0_12)).length : Nat) : Int)))
                        (some (AV.lst 1 false (List.take (w64 (i10_12 + 1)).toNat (obj0_12.set (0 + i10_12.toNat) (sv s0_12)))))
                        (none))
                      (none))
                    (none))
                  (none)))
                (none))
              (none))
            (none))))
theorem topstrings_genSplit (K : PureK) (lstrings_genSplit_0 : Sstrings_genSplit_0 → Option Ostrings_genSplit_0) (s0 : ByteArray) (sep1 : ByteArray) (sepSave2 : Int) (n3 : Int) : topK (addLp X 26 11 (Fstrings_genSplit_0 lstrings_genSplit_0)) K 0 f_strings_genSplit [(.v (.string s0)), (.v (.string sep1)), (.v (.int .i64 sepSave2)), (.v (.int .i64 n3))] = Rstrings_genSplit K lstrings_genSplit_0 s0 sep1 sepSave2 n3 := by kernel_rfl
theorem pcstrings_genSplit {K : PureK} (hK : KOk X K) {lstrings_genSplit_0 : Sstrings_genSplit_0 → Option Ostrings_genSplit_0} (hstrings_genSplit_0 : ∀ s o, lstrings_genSplit_0 s = some o → ∃ m, fuelRec (Rstrings_genSplit_0 K some) m s = some o) {s0 : ByteArray} {sep1 : ByteArray} {sepSave2 : Int} {n3 : Int} {v : AV} (h : Rstrings_genSplit K lstrings_genSplit_0 s0 sep1 sepSave2 n3 = some v) : PureCall X f_strings_genSplit [(.v (.string s0)), (.v (.string sep1)), (.v (.int .i64 sepSave2)), (.v (.int .i64 n3))] v := by
  have hSo0 := soundX
  obtain ⟨_, _, hin0⟩ := loopIn_of (X := X) (f := 26) (i := 0) (key := 11) (by kernel_rfl)
  have hSo1 := sound_add hSo0 hin0 (okstrings_genSplit_0 hSo0 hK hstrings_genSplit_0)
  exact tell_top (X := X) (Y := (addLp X 26 11 (Fstrings_genSplit_0 lstrings_genSplit_0))) rfl rfl hSo1 hK ((topstrings_genSplit K lstrings_genSplit_0 s0 sep1 sepSave2 n3).trans h)

/-! 38: strings.Count -/
inductive Sstrings_Count_0 where
  | s0 (s0 : ByteArray) (substr1 : ByteArray) (n5 : Int)

inductive Ostrings_Count_0 where
  | x0 (t4 : Int)

def Ostrings_Count_0.k {β : Type} (o : Ostrings_Count_0) (c0 : Int → Option β) : Option β := match o with
  | .x0 t4 => c0 t4

def Estrings_Count_0 : Sstrings_Count_0 → Env
  | .s0 s0 substr1 n5 => [(.v (.string s0)), (.v (.string substr1)), .dead, .dead, .dead, (.v (.int .i64 n5)), .dead, .dead, .dead, .dead, .dead, .dead, .dead, .dead, .dead, .dead, .dead, .dead, .dead, .dead, .dead, .dead, .dead, .dead, .dead, .dead, .dead, .dead, .dead, .dead, .dead, .dead, .dead, .dead]

def Hstrings_Count_0 : Sstrings_Count_0 → Heap
  | .s0 s0 substr1 n5 => []

def Tstrings_Count_0 {β : Type} (k : Ex → Env → Heap → Option β) (o : Ostrings_Count_0) : Option β := Ostrings_Count_0.k o (fun t4 => k .ret [.dead, .dead, .dead, .dead, (.v (.int .i64 t4)), .dead, .dead, .dead, .dead, .dead, .dead, .dead, .dead, .dead, .dead, .dead, .dead, .dead, .dead, .dead, .dead, .dead, .dead, .dead, .dead, .dead, .dead, .dead, .dead, .dead, .dead, .dead, .dead, .dead] [])

def Fstrings_Count_0 (lstrings_Count_0 : Sstrings_Count_0 → Option Ostrings_Count_0) : LoopF := ⟨fun e h k => match Nat.beq e.length 34 with
  | true => (match e.getD 0 .dead, e.getD 1 .dead, e.getD 5 .dead, h with
    | (.v (.string s0)), (.v (.string substr1)), (.v (.int .i64 n5)), [] => optK (lstrings_Count_0 (.s0 s0 substr1 n5)) (Tstrings_Count_0 k)
    | _, _, _, _ => none)
  | false => none⟩

def clstrings_Count_0 : List Tmp := [2, 3, 4, 6, 7, 8, 9, 10, 11, 12, 13, 14, 15, 16, 17, 18, 19, 20, 21, 22, 23, 24, 25, 26, 27, 28, 29, 30, 31, 32, 33]
def clostrings_Count_0 : List Tmp := [0, 1, 2, 3, 5, 6, 7, 8, 9, 10, 11, 12, 13, 14, 15, 16, 17, 18, 19, 20, 21, 22, 23, 24, 25, 26, 27, 28, 29, 30, 31, 32, 33]

noncomputable def Rstrings_Count_0 {β : Type} (K : PureK) (d : Ostrings_Count_0 → Option β) (r : Sstrings_Count_0 → Option β) : Sstrings_Count_0 → Option β
  | .s0 s0 substr1 n5 =>
    optK (K f_strings_Index [sv s0, sv substr1]) fun wv1 =>
    Ab.asInt wv1 .i64 fun wn2 =>
    br (wn2 == -1)
      (d (.x0 n5))
      (br (decide (0 ≤ w64 (wn2 + ((substr1.size : Nat) : Int))))
        (br (decide (w64 (wn2 + ((substr1.size : Nat) : Int)) ≤ ((s0.size : Nat) : Int)))
          (r (.s0 (cutStr s0 (some (w64 (wn2 + ((substr1.size : Nat) : Int)))) none) substr1 (w64 (n5 + 1))))
          (none))
        (none))
theorem roundstrings_Count_0 (K : PureK) {β : Type} (r : Env → Heap → Option β) (k : Ex → Env → Heap → Option β) (s : Sstrings_Count_0) : tellOne X K 0 38 0 [(0, 1, 0), (1, 1, 0), (2, 1, 0)] 0 clstrings_Count_0 clostrings_Count_0 r k (Estrings_Count_0 s) (Hstrings_Count_0 s) = Rstrings_Count_0 K (Tstrings_Count_0 k) (fun s => r (Estrings_Count_0 s) (Hstrings_Count_0 s)) s := by
  cases s <;> kernel_rfl
theorem Ostrings_Count_0.bind_k {β γ : Type} (o : Ostrings_Count_0) (c0 : Int → Option β) (φ : β → Option γ) : (Ostrings_Count_0.k o c0).bind φ = Ostrings_Count_0.k o (fun t4 => (c0 t4).bind φ) := by cases o <;> rfl
theorem natstrings_Count_0 (K : PureK) {β γ : Type} (φ : β → Option γ) (d : Ostrings_Count_0 → Option β) (r : Sstrings_Count_0 → Option β) (s : Sstrings_Count_0) : Rstrings_Count_0 K (fun o => (d o).bind φ) (fun s => (r s).bind φ) s = (Rstrings_Count_0 K d r s).bind φ := by
  cases s <;> simp only [Rstrings_Count_0, bind_optK, bind_br, bind_asInt, bind_asBool, bind_asStr, bind_asLst, bind_asAgg, bind_asTup, bind_asBig, bind_asErr, bind_none]
theorem outstrings_Count_0 (o : Ostrings_Count_0) : ∃ x e' h', ∀ {β : Type} (k : Ex → Env → Heap → Option β), Tstrings_Count_0 k o = k x e' h' := by cases o <;> exact ⟨_, _, _, fun _ => rfl⟩
theorem okstrings_Count_0 {K : PureK} (hX : Sound X) (hK : KOk X K) {lstrings_Count_0 : Sstrings_Count_0 → Option Ostrings_Count_0} (hl : ∀ s o, lstrings_Count_0 s = some o → ∃ m, fuelRec (Rstrings_Count_0 K some) m s = some o) (β : Type) (e : Env) (h : Heap) (k : Ex → Env → Heap → Option β) (r : β) (hr : (Fstrings_Count_0 lstrings_Count_0).run e h k = some r) : ∃ x e' h', k x e' h' = some r ∧ CodeAt X (.loop (loopBody (X).P 38 0)) e h x e' h' := by
  obtain ⟨fn, c, hin⟩ := loopIn_of (X := X) (f := 38) (i := 0) (key := 6) (by kernel_rfl)
  simp only [Fstrings_Count_0] at hr
  split at hr
  · rename_i hlen
    have hlen := Nat.eq_of_beq_eq_true hlen
    split at hr
    · rename_i q0 q1 q5
      obtain ⟨o, ho, hr⟩ := optK_some hr
      refine tell_ok hX (KOk.congr (X := X) (Y := X) rfl rfl hK) hin (E := Estrings_Count_0) (H := Hstrings_Count_0) (R := fun d r => Rstrings_Count_0 K d r) (T := Tstrings_Count_0) (ts := [(0, 1, 0), (1, 1, 0), (2, 1, 0)]) (len := 0) (cl := clstrings_Count_0) (clo := clostrings_Count_0) (roundstrings_Count_0 K) (natstrings_Count_0 K) outstrings_Count_0 (hl _ _ ho) (cl0 := clstrings_Count_0) (ts0 := []) ?_ rfl (by kernel_rfl) (by kernel_rfl) hr
      rw [clear_lit e 34 hlen, show clearEnv clstrings_Count_0 ((List.range 34).map fun i => e.getD i .dead) = [e.getD 0 .dead, e.getD 1 .dead, .dead, .dead, .dead, e.getD 5 .dead, .dead, .dead, .dead, .dead, .dead, .dead, .dead, .dead, .dead, .dead, .dead, .dead, .dead, .dead, .dead, .dead, .dead, .dead, .dead, .dead, .dead, .dead, .dead, .dead, .dead, .dead, .dead, .dead] from by kernel_rfl]; rw [q0, q1, q5]
      kernel_rfl
    · cases hr
  · cases hr
noncomputable def Rstrings_Count (K : PureK) (lstrings_Count_0 : Sstrings_Count_0 → Option Ostrings_Count_0) (s0 : ByteArray) (substr1 : ByteArray) : Option AV :=
  br (((substr1.size : Nat) : Int) == 0)
      (optK (K f_utf8_RuneCountInString [sv s0]) fun wv5 =>
      Ab.asInt wv5 .i64 fun wn6 =>
      some (iv (w64 (wn6 + 1))))
      (br (((substr1.size : Nat) : Int) == 1)
        (br (decide (0 < ((substr1.size : Nat) : Int)))
          (optK (K f_i_bytealg_CountString [sv s0, uv (bt substr1 0)]) fun wv7 =>
          Ab.asInt wv7 .i64 fun wn8 =>
          some (iv wn8))
          (none))
        (optK (lstrings_Count_0 (Sstrings_Count_0.s0 s0 substr1 0)) fun wo9 => Ostrings_Count_0.k wo9 (fun (t4_10 : Int) =>
        some (iv t4_10))))
theorem topstrings_Count (K : PureK) (lstrings_Count_0 : Sstrings_Count_0 → Option Ostrings_Count_0) (s0 : ByteArray) (substr1 : ByteArray) : topK (addLp X 38 6 (Fstrings_Count_0 lstrings_Count_0)) K 0 f_strings_Count [(.v (.string s0)), (.v (.string substr1))] = Rstrings_Count K lstrings_Count_0 s0 substr1 := by kernel_rfl
theorem pcstrings_Count {K : PureK} (hK : KOk X K) {lstrings_Count_0 : Sstrings_Count_0 → Option Ostrings_Count_0} (hstrings_Count_0 : ∀ s o, lstrings_Count_0 s = some o → ∃ m, fuelRec (Rstrings_Count_0 K some) m s = some o) {s0 : ByteArray} {substr1 : ByteArray} {v : AV} (h : Rstrings_Count K lstrings_Count_0 s0 substr1 = some v) : PureCall X f_strings_Count [(.v (.string s0)), (.v (.string substr1))] v := by
  have hSo0 := soundX
  obtain ⟨_, _, hin0⟩ := loopIn_of (X := X) (f := 38) (i := 0) (key := 6) (by kernel_rfl)
  have hSo1 := sound_add hSo0 hin0 (okstrings_Count_0 hSo0 hK hstrings_Count_0)
  exact tell_top (X := X) (Y := (addLp X 38 6 (Fstrings_Count_0 lstrings_Count_0))) rfl rfl hSo1 hK ((topstrings_Count K lstrings_Count_0 s0 substr1).trans h)

/-! 39: strings.Index -/
noncomputable def Rstrings_Index (K : PureK) (s0 : ByteArray) (substr1 : ByteArray) : Option AV :=
  optK (K f_i_stringslite_Index [sv s0, sv substr1]) fun wv1 =>
    Ab.asInt wv1 .i64 fun wn2 =>
    some (iv wn2)
theorem topstrings_Index (K : PureK) (s0 : ByteArray) (substr1 : ByteArray) : topK X K 0 f_strings_Index [(.v (.string s0)), (.v (.string substr1))] = Rstrings_Index K s0 substr1 := by kernel_rfl
theorem pcstrings_Index {K : PureK} (hK : KOk X K) {s0 : ByteArray} {substr1 : ByteArray} {v : AV} (h : Rstrings_Index K s0 substr1 = some v) : PureCall X f_strings_Index [(.v (.string s0)), (.v (.string substr1))] v := by
  have hSo0 := soundX
  exact tell_top (X := X) (Y := X) rfl rfl hSo0 hK ((topstrings_Index K s0 substr1).trans h)

/-! 53: internal/stringslite.Index -/
noncomputable def Ri_stringslite_Index (K : PureK) (s0 : ByteArray) (substr1 : ByteArray) : Option AV :=
  optK (br (((substr1.size : Nat) : Int) == 0)
        (some (bv true))
        (some (bv (strEq substr1 s0)))) fun wv1 =>
    Ab.asBool wv1 fun wb2 =>
    br wb2
      (some (iv 0))
      (br (((substr1.size : Nat) : Int) == 1)
        (br (decide (0 < ((substr1.size : Nat) : Int)))
          (optK (K f_i_stringslite_IndexByte [sv s0, uv (bt substr1 0)]) fun wv3 =>
          Ab.asInt wv3 .i64 fun wn4 =>
          some (iv wn4))
          (none))
        (br (decide (((substr1.size : Nat) : Int) ≥ ((s0.size : Nat) : Int)))
          (some (iv (-1)))
          (none)))
theorem topi_stringslite_Index (K : PureK) (s0 : ByteArray) (substr1 : ByteArray) : topK X K 0 f_i_stringslite_Index [(.v (.string s0)), (.v (.string substr1))] = Ri_stringslite_Index K s0 substr1 := by kernel_rfl
theorem pci_stringslite_Index {K : PureK} (hK : KOk X K) {s0 : ByteArray} {substr1 : ByteArray} {v : AV} (h : Ri_stringslite_Index K s0 substr1 = some v) : PureCall X f_i_stringslite_Index [(.v (.string s0)), (.v (.string substr1))] v := by
  have hSo0 := soundX
  exact tell_top (X := X) (Y := X) rfl rfl hSo0 hK ((topi_stringslite_Index K s0 substr1).trans h)

/-! 62: internal/stringslite.IndexByte -/
noncomputable def Ri_stringslite_IndexByte (K : PureK) (s0 : ByteArray) (c1 : Int) : Option AV :=
  optK (K f_i_bytealg_IndexByteString [sv s0, uv c1]) fun wv1 =>
    Ab.asInt wv1 .i64 fun wn2 =>
    some (iv wn2)
theorem topi_stringslite_IndexByte (K : PureK) (s0 : ByteArray) (c1 : Int) : topK X K 0 f_i_stringslite_IndexByte [(.v (.string s0)), (.v (.int .u8 c1))] = Ri_stringslite_IndexByte K s0 c1 := by kernel_rfl
theorem pci_stringslite_IndexByte {K : PureK} (hK : KOk X K) {s0 : ByteArray} {c1 : Int} {v : AV} (h : Ri_stringslite_IndexByte K s0 c1 = some v) : PureCall X f_i_stringslite_IndexByte [(.v (.string s0)), (.v (.int .u8 c1))] v := by
  have hSo0 := soundX
  exact tell_top (X := X) (Y := X) rfl rfl hSo0 hK ((topi_stringslite_IndexByte K s0 c1).trans h)

/-! 16: strings.TrimPrefix -/
noncomputable def Rstrings_TrimPrefix (K : PureK) (s0 : ByteArray) (prefix1 : ByteArray) : Option AV :=
  optK (K f_i_stringslite_TrimPrefix [sv s0, sv prefix1]) fun wv1 =>
    Ab.asStr wv1 fun ws2 =>
    some (sv ws2)
theorem topstrings_TrimPrefix (K : PureK) (s0 : ByteArray) (prefix1 : ByteArray) : topK X K 0 f_strings_TrimPrefix [(.v (.string s0)), (.v (.string prefix1))] = Rstrings_TrimPrefix K s0 prefix1 := by kernel_rfl
theorem pcstrings_TrimPrefix {K : PureK} (hK : KOk X K) {s0 : ByteArray} {prefix1 : ByteArray} {v : AV} (h : Rstrings_TrimPrefix K s0 prefix1 = some v) : PureCall X f_strings_TrimPrefix [(.v (.string s0)), (.v (.string prefix1))] v := by
  have hSo0 := soundX
  exact tell_top (X := X) (Y := X) rfl rfl hSo0 hK ((topstrings_TrimPrefix K s0 prefix1).trans h)

/-! 29: internal/stringslite.TrimPrefix -/
noncomputable def Ri_stringslite_TrimPrefix (K : PureK) (s0 : ByteArray) (prefix1 : ByteArray) : Option AV :=
  optK (K f_i_stringslite_HasPrefix [sv s0, sv prefix1]) fun wv1 =>
    Ab.asBool wv1 fun wb2 =>
    br wb2
      (br (decide (((prefix1.size : Nat) : Int) ≤ ((s0.size : Nat) : Int)))
        (some (sv (cutStr s0 (some (((prefix1.size : Nat) : Int))) none)))
        (none))
      (some (sv s0))
theorem topi_stringslite_TrimPrefix (K : PureK) (s0 : ByteArray) (prefix1 : ByteArray) : topK X K 0 f_i_stringslite_TrimPrefix [(.v (.string s0)), (.v (.string prefix1))] = Ri_stringslite_TrimPrefix K s0 prefix1 := by kernel_rfl
theorem pci_stringslite_TrimPrefix {K : PureK} (hK : KOk X K) {s0 : ByteArray} {prefix1 : ByteArray} {v : AV} (h : Ri_stringslite_TrimPrefix K s0 prefix1 = some v) : PureCall X f_i_stringslite_TrimPrefix [(.v (.string s0)), (.v (.string prefix1))] v := by
  have hSo0 := soundX
  exact tell_top (X := X) (Y := X) rfl rfl hSo0 hK ((topi_stringslite_TrimPrefix K s0 prefix1).trans h)

/-! 35: internal/stringslite.HasPrefix -/
noncomputable def Ri_stringslite_HasPrefix (K : PureK) (s0 : ByteArray) (prefix1 : ByteArray) : Option AV :=
  optK (br (decide (((s0.size : Nat) : Int) ≥ ((prefix1.size : Nat) : Int)))
        (br (decide (((prefix1.size : Nat) : Int) ≤ ((s0.size : Nat) : Int)))
          (some (bv (strEq (cutStr s0 none (some (((prefix1.size : Nat) : Int)))) prefix1)))
          (none))
        (some (bv false))) fun wv1 =>
    Ab.asBool wv1 fun wb2 =>
    some (bv wb2)
theorem topi_stringslite_HasPrefix (K : PureK) (s0 : ByteArray) (prefix1 : ByteArray) : topK X K 0 f_i_stringslite_HasPrefix [(.v (.string s0)), (.v (.string prefix1))] = Ri_stringslite_HasPrefix K s0 prefix1 := by kernel_rfl
theorem pci_stringslite_HasPrefix {K : PureK} (hK : KOk X K) {s0 : ByteArray} {prefix1 : ByteArray} {v : AV} (h : Ri_stringslite_HasPrefix K s0 prefix1 = some v) : PureCall X f_i_stringslite_HasPrefix [(.v (.string s0)), (.v (.string prefix1))] v := by
  have hSo0 := soundX
  exact tell_top (X := X) (Y := X) rfl rfl hSo0 hK ((topi_stringslite_HasPrefix K s0 prefix1).trans h)

/-! 34: strings.Trim -/
inductive Sstrings_Trim_strings_trimRightASCII_0 where
  | s0 (s0 : ByteArray) (obj0_0 : List AV)

inductive Ostrings_Trim_strings_trimRightASCII_0 where
  | x0 (s0 : ByteArray) (obj0_0 : List AV)

def Ostrings_Trim_strings_trimRightASCII_0.k {β : Type} (o : Ostrings_Trim_strings_trimRightASCII_0) (c0 : ByteArray → (List AV) → Option β) : Option β := match o with
  | .x0 s0 obj0_0 => c0 s0 obj0_0

def Estrings_Trim_strings_trimRightASCII_0 : Sstrings_Trim_strings_trimRightASCII_0 → Env
  | .s0 s0 obj0_0 => [(.v (.string s0)), (.ptr 0 0 0 0), .dead, .dead, .dead, .dead, .dead, .dead, .dead, .dead, .dead, .dead, .dead, .dead, .dead, .dead, .dead, .dead, .dead, .dead, .dead, .dead]

def Hstrings_Trim_strings_trimRightASCII_0 : Sstrings_Trim_strings_trimRightASCII_0 → Heap
  | .s0 s0 obj0_0 => [⟨[(.agg obj0_0)], 0, 0, true, true, 70, 256, none⟩]

def Tstrings_Trim_strings_trimRightASCII_0 {β : Type} (k : Ex → Env → Heap → Option β) (o : Ostrings_Trim_strings_trimRightASCII_0) : Option β := Ostrings_Trim_strings_trimRightASCII_0.k o (fun s0 obj0_0 => k (.exit 0) [(.v (.string s0)), .dead, .dead, .dead, .dead, .dead, .dead, .dead, .dead, .dead, .dead, .dead, .dead, .dead, .dead, .dead, .dead, .dead, .dead, .dead, .dead, .dead] [⟨[(.agg obj0_0)], 0, 0, true, true, 70, 256, none⟩])

def Fstrings_Trim_strings_trimRightASCII_0 (lstrings_Trim_strings_trimRightASCII_0 : Sstrings_Trim_strings_trimRightASCII_0 → Option Ostrings_Trim_strings_trimRightASCII_0) : LoopF := ⟨fun e h k => match Nat.beq e.length 22 with
  | true => (match e.getD 0 .dead, e.getD 1 .dead, h with
    | (.v (.string s0)), (.ptr 0 0 0 0), [⟨[(.agg obj0_0)], 0, 0, true, true, 70, 256, none⟩] => optK (lstrings_Trim_strings_trimRightASCII_0 (.s0 s0 obj0_0)) (Tstrings_Trim_strings_trimRightASCII_0 k)
    | _, _, _ => none)
  | false => none⟩

def clstrings_Trim_strings_trimRightASCII_0 : List Tmp := [2, 3, 4, 5, 6, 7, 8, 9, 10, 11, 12, 13, 14, 15, 16, 17, 18, 19, 20, 21]
def clostrings_Trim_strings_trimRightASCII_0 : List Tmp := [1, 2, 3, 4, 5, 6, 7, 8, 9, 10, 11, 12, 13, 14, 15, 16, 17, 18, 19, 20, 21]

noncomputable def Rstrings_Trim_strings_trimRightASCII_0 {β : Type} (K : PureK) (d : Ostrings_Trim_strings_trimRightASCII_0 → Option β) (r : Sstrings_Trim_strings_trimRightASCII_0 → Option β) : Sstrings_Trim_strings_trimRightASCII_0 → Option β
  | .s0 s0 obj0_0 =>
    br (decide (((s0.size : Nat) : Int) > 0))
      (br (decide (0 ≤ w64 (((s0.size : Nat) : Int) - 1)))
        (br (decide (w64 (((s0.size : Nat) : Int) - 1) < ((s0.size : Nat) : Int)))
          (br (decide (bt s0 (w64 (((s0.size : Nat) : Int) - 1)).toNat < 256))
            (optK (obj0_0[0 + (bt s0 (w64 (((s0.size : Nat) : Int) - 1)).toNat).toNat * 1]?) fun wv1 =>
            Ab.asBool wv1 fun wb2 =>
            br (!wb2)
              (d (.x0 s0 obj0_0))
              (br (decide (0 ≤ w64 (((s0.size : Nat) : Int) - 1)))
                (br (decide (w64 (((s0.size : Nat) : Int) - 1) ≤ ((s0.size : Nat) : Int)))
                  (r (.s0 (cutStr s0 none (some (w64 (((s0.size : Nat) : Int) - 1)))) obj0_0))
                  (none))
                (none)))
            (none))
          (none))
        (none))
      (d (.x0 s0 obj0_0))
theorem roundstrings_Trim_strings_trimRightASCII_0 (K : PureK) {β : Type} (r : Env → Heap → Option β) (k : Ex → Env → Heap → Option β) (s : Sstrings_Trim_strings_trimRightASCII_0) : tellOne X K 0 48 0 [(1, 1, 0), (2, 1, 0), (3, 1, 0)] 1 clstrings_Trim_strings_trimRightASCII_0 clostrings_Trim_strings_trimRightASCII_0 r k (Estrings_Trim_strings_trimRightASCII_0 s) (Hstrings_Trim_strings_trimRightASCII_0 s) = Rstrings_Trim_strings_trimRightASCII_0 K (Tstrings_Trim_strings_trimRightASCII_0 k) (fun s => r (Estrings_Trim_strings_trimRightASCII_0 s) (Hstrings_Trim_strings_trimRightASCII_0 s)) s := by
  cases s <;> kernel_rfl
theorem Ostrings_Trim_strings_trimRightASCII_0.bind_k {β γ : Type} (o : Ostrings_Trim_strings_trimRightASCII_0) (c0 : ByteArray → (List AV) → Option β) (φ : β → Option γ) : (Ostrings_Trim_strings_trimRightASCII_0.k o c0).bind φ = Ostrings_Trim_strings_trimRightASCII_0.k o (fun s0 obj0_0 => (c0 s0 obj0_0).bind φ) := by cases o <;> rfl
theorem natstrings_Trim_strings_trimRightASCII_0 (K : PureK) {β γ : Type} (φ : β → Option γ) (d : Ostrings_Trim_strings_trimRightASCII_0 → Option β) (r : Sstrings_Trim_strings_trimRightASCII_0 → Option β) (s : Sstrings_Trim_strings_trimRightASCII_0) : Rstrings_Trim_strings_trimRightASCII_0 K (fun o => (d o).bind φ) (fun s => (r s).bind φ) s = (Rstrings_Trim_strings_trimRightASCII_0 K d r s).bind φ := by
  cases s <;> simp only [Rstrings_Trim_strings_trimRightASCII_0, bind_optK, bind_br, bind_asInt, bind_asBool, bind_asStr, bind_asLst, bind_asAgg, bind_asTup, bind_asBig, bind_asErr, bind_none]
theorem outstrings_Trim_strings_trimRightASCII_0 (o : Ostrings_Trim_strings_trimRightASCII_0) : ∃ x e' h', ∀ {β : Type} (k : Ex → Env → Heap → Option β), Tstrings_Trim_strings_trimRightASCII_0 k o = k x e' h' := by cases o <;> exact ⟨_, _, _, fun _ => rfl⟩
theorem okstrings_Trim_strings_trimRightASCII_0 {K : PureK} (hX : Sound X) (hK : KOk X K) {lstrings_Trim_strings_trimRightASCII_0 : Sstrings_Trim_strings_trimRightASCII_0 → Option Ostrings_Trim_strings_trimRightASCII_0} (hl : ∀ s o, lstrings_Trim_strings_trimRightASCII_0 s = some o → ∃ m, fuelRec (Rstrings_Trim_strings_trimRightASCII_0 K some) m s = some o) (β : Type) (e : Env) (h : Heap) (k : Ex → Env → Heap → Option β) (r : β) (hr : (Fstrings_Trim_strings_trimRightASCII_0 lstrings_Trim_strings_trimRightASCII_0).run e h k = some r) : ∃ x e' h', k x e' h' = some r ∧ CodeAt X (.loop (loopBody (X).P 48 0)) e h x e' h' := by
  obtain ⟨fn, c, hin⟩ := loopIn_of (X := X) (f := 48) (i := 0) (key := 1) (by kernel_rfl)
  simp only [Fstrings_Trim_strings_trimRightASCII_0] at hr
  split at hr
  · rename_i hlen
    have hlen := Nat.eq_of_beq_eq_true hlen
    split at hr
    · rename_i q0 q1
      obtain ⟨o, ho, hr⟩ := optK_some hr
      refine tell_ok hX (KOk.congr (X := X) (Y := X) rfl rfl hK) hin (E := Estrings_Trim_strings_trimRightASCII_0) (H := Hstrings_Trim_strings_trimRightASCII_0) (R := fun d r => Rstrings_Trim_strings_trimRightASCII_0 K d r) (T := Tstrings_Trim_strings_trimRightASCII_0) (ts := [(1, 1, 0), (2, 1, 0), (3, 1, 0)]) (len := 1) (cl := clstrings_Trim_strings_trimRightASCII_0) (clo := clostrings_Trim_strings_trimRightASCII_0) (roundstrings_Trim_strings_trimRightASCII_0 K) (natstrings_Trim_strings_trimRightASCII_0 K) outstrings_Trim_strings_trimRightASCII_0 (hl _ _ ho) (cl0 := clstrings_Trim_strings_trimRightASCII_0) (ts0 := []) ?_ rfl (by kernel_rfl) (by kernel_rfl) hr
      rw [clear_lit e 22 hlen, show clearEnv clstrings_Trim_strings_trimRightASCII_0 ((List.range 22).map fun i => e.getD i .dead) = [e.getD 0 .dead, e.getD 1 .dead, .dead, .dead, .dead, .dead, .dead, .dead, .dead, .dead, .dead, .dead, .dead, .dead, .dead, .dead, .dead, .dead, .dead, .dead, .dead, .dead] from by kernel_rfl]; rw [q0, q1]
      kernel_rfl
    · cases hr
  · cases hr
inductive Sstrings_Trim_strings_trimLeftASCII_0 where
  | s0 (s0 : ByteArray) (obj0_0 : List AV)

inductive Ostrings_Trim_strings_trimLeftASCII_0 where
  | x0 (s0 : ByteArray) (obj0_0 : List AV)

def Ostrings_Trim_strings_trimLeftASCII_0.k {β : Type} (o : Ostrings_Trim_strings_trimLeftASCII_0) (c0 : ByteArray → (List AV) → Option β) : Option β := match o with
  | .x0 s0 obj0_0 => c0 s0 obj0_0

def Estrings_Trim_strings_trimLeftASCII_0 : Sstrings_Trim_strings_trimLeftASCII_0 → Env
  | .s0 s0 obj0_0 => [(.v (.string s0)), (.ptr 0 0 0 0), .dead, .dead, .dead, .dead, .dead, .dead, .dead, .dead, .dead, .dead, .dead, .dead, .dead, .dead]

def Hstrings_Trim_strings_trimLeftASCII_0 : Sstrings_Trim_strings_trimLeftASCII_0 → Heap
  | .s0 s0 obj0_0 => [⟨[(.agg obj0_0)], 0, 0, true, true, 70, 256, none⟩]

def Tstrings_Trim_strings_trimLeftASCII_0 {β : Type} (k : Ex → Env → Heap → Option β) (o : Ostrings_Trim_strings_trimLeftASCII_0) : Option β := Ostrings_Trim_strings_trimLeftASCII_0.k o (fun s0 obj0_0 => k (.exit 0) [(.v (.string s0)), .dead, .dead, .dead, .dead, .dead, .dead, .dead, .dead, .dead, .dead, .dead, .dead, .dead, .dead, .dead] [⟨[(.agg obj0_0)], 0, 0, true, true, 70, 256, none⟩])

def Fstrings_Trim_strings_trimLeftASCII_0 (lstrings_Trim_strings_trimLeftASCII_0 : Sstrings_Trim_strings_trimLeftASCII_0 → Option Ostrings_Trim_strings_trimLeftASCII_0) : LoopF := ⟨fun e h k => match Nat.beq e.length 16 with
  | true => (match e.getD 0 .dead, e.getD 1 .dead, h with
    | (.v (.string s0)), (.ptr 0 0 0 0), [⟨[(.agg obj0_0)], 0, 0, true, true, 70, 256, none⟩] => optK (lstrings_Trim_strings_trimLeftASCII_0 (.s0 s0 obj0_0)) (Tstrings_Trim_strings_trimLeftASCII_0 k)
    | _, _, _ => none)
  | false => none⟩

def clstrings_Trim_strings_trimLeftASCII_0 : List Tmp := [2, 3, 4, 5, 6, 7, 8, 9, 10, 11, 12, 13, 14, 15]
def clostrings_Trim_strings_trimLeftASCII_0 : List Tmp := [1, 2, 3, 4, 5, 6, 7, 8, 9, 10, 11, 12, 13, 14, 15]

noncomputable def Rstrings_Trim_strings_trimLeftASCII_0 {β : Type} (K : PureK) (d : Ostrings_Trim_strings_trimLeftASCII_0 → Option β) (r : Sstrings_Trim_strings_trimLeftASCII_0 → Option β) : Sstrings_Trim_strings_trimLeftASCII_0 → Option β
  | .s0 s0 obj0_0 =>
    br (decide (((s0.size : Nat) : Int) > 0))
      (br (decide (0 < ((s0.size : Nat) : Int)))
        (br (decide (bt s0 0 < 256))
          (optK (obj0_0[0 + (bt s0 0).toNat * 1]?) fun wv1 =>
          Ab.asBool wv1 fun wb2 =>
          br (!wb2)
            (d (.x0 s0 obj0_0))
            (br (decide (1 ≤ ((s0.size : Nat) : Int)))
              (r (.s0 (cutStr s0 (some 1) none) obj0_0))
              (none)))
          (none))
        (none))
      (d (.x0 s0 obj0_0))
theorem roundstrings_Trim_strings_trimLeftASCII_0 (K : PureK) (lstrings_Trim_strings_trimRightASCII_0 : Sstrings_Trim_strings_trimRightASCII_0 → Option Ostrings_Trim_strings_trimRightASCII_0) {β : Type} (r : Env → Heap → Option β) (k : Ex → Env → Heap → Option β) (s : Sstrings_Trim_strings_trimLeftASCII_0) : tellOne (addLp X 48 1 (Fstrings_Trim_strings_trimRightASCII_0 lstrings_Trim_strings_trimRightASCII_0)) K 0 47 0 [(1, 1, 0), (2, 1, 0), (3, 1, 0)] 1 clstrings_Trim_strings_trimLeftASCII_0 clostrings_Trim_strings_trimLeftASCII_0 r k (Estrings_Trim_strings_trimLeftASCII_0 s) (Hstrings_Trim_strings_trimLeftASCII_0 s) = Rstrings_Trim_strings_trimLeftASCII_0 K (Tstrings_Trim_strings_trimLeftASCII_0 k) (fun s => r (Estrings_Trim_strings_trimLeftASCII_0 s) (Hstrings_Trim_strings_trimLeftASCII_0 s)) s := by
  cases s <;> kernel_rfl
theorem Ostrings_Trim_strings_trimLeftASCII_0.bind_k {β γ : Type} (o : Ostrings_Trim_strings_trimLeftASCII_0) (c0 : ByteArray → (List AV) → Option β) (φ : β → Option γ) : (Ostrings_Trim_strings_trimLeftASCII_0.k o c0).bind φ = Ostrings_Trim_strings_trimLeftASCII_0.k o (fun s0 obj0_0 => (c0 s0 obj0_0).bind φ) := by cases o <;> rfl
theorem natstrings_Trim_strings_trimLeftASCII_0 (K : PureK) {β γ : Type} (φ : β → Option γ) (d : Ostrings_Trim_strings_trimLeftASCII_0 → Option β) (r : Sstrings_Trim_strings_trimLeftASCII_0 → Option β) (s : Sstrings_Trim_strings_trimLeftASCII_0) : Rstrings_Trim_strings_trimLeftASCII_0 K (fun o => (d o).bind φ) (fun s => (r s).bind φ) s = (Rstrings_Trim_strings_trimLeftASCII_0 K d r s).bind φ := by
  cases s <;> simp only [Rstrings_Trim_strings_trimLeftASCII_0, bind_optK, bind_br, bind_asInt, bind_asBool, bind_asStr, bind_asLst, bind_asAgg, bind_asTup, bind_asBig, bind_asErr, bind_none]
theorem outstrings_Trim_strings_trimLeftASCII_0 (o : Ostrings_Trim_strings_trimLeftASCII_0) : ∃ x e' h', ∀ {β : Type} (k : Ex → Env → Heap → Option β), Tstrings_Trim_strings_trimLeftASCII_0 k o = k x e' h' := by cases o <;> exact ⟨_, _, _, fun _ => rfl⟩
theorem okstrings_Trim_strings_trimLeftASCII_0 {K : PureK} (lstrings_Trim_strings_trimRightASCII_0 : Sstrings_Trim_strings_trimRightASCII_0 → Option Ostrings_Trim_strings_trimRightASCII_0) (hX : Sound (addLp X 48 1 (Fstrings_Trim_strings_trimRightASCII_0 lstrings_Trim_strings_trimRightASCII_0))) (hK : KOk X K) {lstrings_Trim_strings_trimLeftASCII_0 : Sstrings_Trim_strings_trimLeftASCII_0 → Option Ostrings_Trim_strings_trimLeftASCII_0} (hl : ∀ s o, lstrings_Trim_strings_trimLeftASCII_0 s = some o → ∃ m, fuelRec (Rstrings_Trim_strings_trimLeftASCII_0 K some) m s = some o) (β : Type) (e : Env) (h : Heap) (k : Ex → Env → Heap → Option β) (r : β) (hr : (Fstrings_Trim_strings_trimLeftASCII_0 lstrings_Trim_strings_trimLeftASCII_0).run e h k = some r) : ∃ x e' h', k x e' h' = some r ∧ CodeAt (addLp X 48 1 (Fstrings_Trim_strings_trimRightASCII_0 lstrings_Trim_strings_trimRightASCII_0)) (.loop (loopBody ((addLp X 48 1 (Fstrings_Trim_strings_trimRightASCII_0 lstrings_Trim_strings_trimRightASCII_0))).P 47 0)) e h x e' h' := by
  obtain ⟨fn, c, hin⟩ := loopIn_of (X := (addLp X 48 1 (Fstrings_Trim_strings_trimRightASCII_0 lstrings_Trim_strings_trimRightASCII_0))) (f := 47) (i := 0) (key := 1) (by kernel_rfl)
  simp only [Fstrings_Trim_strings_trimLeftASCII_0] at hr
  split at hr
  · rename_i hlen
    have hlen := Nat.eq_of_beq_eq_true hlen
    split at hr
    · rename_i q0 q1
      obtain ⟨o, ho, hr⟩ := optK_some hr
      refine tell_ok hX (KOk.congr (X := X) (Y := (addLp X 48 1 (Fstrings_Trim_strings_trimRightASCII_0 lstrings_Trim_strings_trimRightASCII_0))) rfl rfl hK) hin (E := Estrings_Trim_strings_trimLeftASCII_0) (H := Hstrings_Trim_strings_trimLeftASCII_0) (R := fun d r => Rstrings_Trim_strings_trimLeftASCII_0 K d r) (T := Tstrings_Trim_strings_trimLeftASCII_0) (ts := [(1, 1, 0), (2, 1, 0), (3, 1, 0)]) (len := 1) (cl := clstrings_Trim_strings_trimLeftASCII_0) (clo := clostrings_Trim_strings_trimLeftASCII_0) (roundstrings_Trim_strings_trimLeftASCII_0 K lstrings_Trim_strings_trimRightASCII_0) (natstrings_Trim_strings_trimLeftASCII_0 K) outstrings_Trim_strings_trimLeftASCII_0 (hl _ _ ho) (cl0 := clstrings_Trim_strings_trimLeftASCII_0) (ts0 := []) ?_ rfl (by kernel_rfl) (by kernel_rfl) hr
      rw [clear_lit e 16 hlen, show clearEnv clstrings_Trim_strings_trimLeftASCII_0 ((List.range 16).map fun i => e.getD i .dead) = [e.getD 0 .dead, e.getD 1 .dead, .dead, .dead, .dead, .dead, .dead, .dead, .dead, .dead, .dead, .dead, .dead, .dead, .dead, .dead] from by kernel_rfl]; rw [q0, q1]
      kernel_rfl
    · cases hr
  · cases hr
noncomputable def Rstrings_Trim (K : PureK) (lstrings_Trim_strings_trimRightASCII_0 : Sstrings_Trim_strings_trimRightASCII_0 → Option Ostrings_Trim_strings_trimRightASCII_0) (lstrings_Trim_strings_trimLeftASCII_0 : Sstrings_Trim_strings_trimLeftASCII_0 → Option Ostrings_Trim_strings_trimLeftASCII_0) (s0 : ByteArray) (cutset1 : ByteArray) : Option AV :=
  optK (br (strEq s0 { data := #[] })
        (some (bv true))
        (some (bv (strEq cutset1 { data := #[] })))) fun wv27 =>
    Ab.asBool wv27 fun wb28 =>
    br wb28
      (some (sv s0))
      (optK (br (((cutset1.size : Nat) : Int) == 1)
          (br (decide (0 < ((cutset1.size : Nat) : Int)))
            (some (bv (decide (bt cutset1 0 < 128))))
            (none))
          (some (bv false))) fun wv29 =>
      Ab.asBool wv29 fun wb30 =>
      br wb30
        (br (decide (0 < ((cutset1.size : Nat) : Int)))
          (optK (K f_strings_trimRightByte [sv s0, uv (bt cutset1 0)]) fun wv31 =>
          Ab.asStr wv31 fun ws32 =>
          br (decide (0 < ((cutset1.size : Nat) : Int)))
            (optK (K f_strings_trimLeftByte [sv ws32, uv (bt cutset1 0)]) fun wv33 =>
            Ab.asStr wv33 fun ws34 =>
            some (sv ws34))
            (none))
          (none))
        (optK (K f_strings_makeASCIISet [sv cutset1]) fun wv35 =>
        Ab.asTup wv35 2 fun wg36 =>
        Ab.asBig (wg36 0) 256 fun wc37 =>
        Ab.asBool (wg36 1) fun wb38 =>
        br (refFree (AV.tup [AV.agg wc37, bv wb38]))
          (br (fits Tryd.prog 70 (AV.agg wc37) && (true || refFree (AV.agg wc37)))
            (br wb38
              (optK (lstrings_Trim_strings_trimRightASCII_0 (Sstrings_Trim_strings_trimRightASCII_0.s0 s0 wc37)) fun wo39 => Ostrings_Trim_strings_trimRightASCII_0.k wo39 (fun (s0_40 : ByteArray) (obj0_0_40 : List AV) =>
              optK (lstrings_Trim_strings_trimLeftASCII_0 (Sstrings_Trim_strings_trimLeftASCII_0.s0 s0_40 obj0_0_40)) fun wo41 => Ostrings_Trim_strings_trimLeftASCII_0.k wo41 (fun (s0_42 : ByteArray) (obj0_0_42 : List AV) =>
              some (sv s0_42))))
              (optK (K f_strings_trimRightUnicode [sv s0, sv cutset1]) fun wv43 =>
              Ab.asStr wv43 fun ws44 =>
              optK (K f_strings_trimLeftUnicode [sv ws44, sv cutset1]) fun wv45 =>
              Ab.asStr wv45 fun ws46 =>
              some (sv ws46)))
            (none))
          (none)))
theorem topstrings_Trim (K : PureK) (lstrings_Trim_strings_trimRightASCII_0 : Sstrings_Trim_strings_trimRightASCII_0 → Option Ostrings_Trim_strings_trimRightASCII_0) (lstrings_Trim_strings_trimLeftASCII_0 : Sstrings_Trim_strings_trimLeftASCII_0 → Option Ostrings_Trim_strings_trimLeftASCII_0) (s0 : ByteArray) (cutset1 : ByteArray) : topK (addLp (addLp X 48 1 (Fstrings_Trim_strings_trimRightASCII_0 lstrings_Trim_strings_trimRightASCII_0)) 47 1 (Fstrings_Trim_strings_trimLeftASCII_0 lstrings_Trim_strings_trimLeftASCII_0)) K 0 f_strings_Trim [(.v (.string s0)), (.v (.string cutset1))] = Rstrings_Trim K lstrings_Trim_strings_trimRightASCII_0 lstrings_Trim_strings_trimLeftASCII_0 s0 cutset1 := by kernel_rfl
theorem pcstrings_Trim {K : PureK} (hK : KOk X K) {lstrings_Trim_strings_trimRightASCII_0 : Sstrings_Trim_strings_trimRightASCII_0 → Option Ostrings_Trim_strings_trimRightASCII_0} {lstrings_Trim_strings_trimLeftASCII_0 : Sstrings_Trim_strings_trimLeftASCII_0 → Option Ostrings_Trim_strings_trimLeftASCII_0} (hstrings_Trim_strings_trimRightASCII_0 : ∀ s o, lstrings_Trim_strings_trimRightASCII_0 s = some o → ∃ m, fuelRec (Rstrings_Trim_strings_trimRightASCII_0 K some) m s = some o) (hstrings_Trim_strings_trimLeftASCII_0 : ∀ s o, lstrings_Trim_strings_trimLeftASCII_0 s = some o → ∃ m, fuelRec (Rstrings_Trim_strings_trimLeftASCII_0 K some) m s = some o) {s0 : ByteArray} {cutset1 : ByteArray} {v : AV} (h : Rstrings_Trim K lstrings_Trim_strings_trimRightASCII_0 lstrings_Trim_strings_trimLeftASCII_0 s0 cutset1 = some v) : PureCall X f_strings_Trim [(.v (.string s0)), (.v (.string cutset1))] v := by
  have hSo0 := soundX
  obtain ⟨_, _, hin0⟩ := loopIn_of (X := X) (f := 48) (i := 0) (key := 1) (by kernel_rfl)
  have hSo1 := sound_add hSo0 hin0 (okstrings_Trim_strings_trimRightASCII_0 hSo0 hK hstrings_Trim_strings_trimRightASCII_0)
  obtain ⟨_, _, hin1⟩ := loopIn_of (X := (addLp X 48 1 (Fstrings_Trim_strings_trimRightASCII_0 lstrings_Trim_strings_trimRightASCII_0))) (f := 47) (i := 0) (key := 1) (by kernel_rfl)
  have hSo2 := sound_add hSo1 hin1 (okstrings_Trim_strings_trimLeftASCII_0 lstrings_Trim_strings_trimRightASCII_0 hSo1 hK hstrings_Trim_strings_trimLeftASCII_0)
  exact tell_top (X := X) (Y := (addLp (addLp X 48 1 (Fstrings_Trim_strings_trimRightASCII_0 lstrings_Trim_strings_trimRightASCII_0)) 47 1 (Fstrings_Trim_strings_trimLeftASCII_0 lstrings_Trim_strings_trimLeftASCII_0))) rfl rfl hSo2 hK ((topstrings_Trim K lstrings_Trim_strings_trimRightASCII_0 lstrings_Trim_strings_trimLeftASCII_0 s0 cutset1).trans h)

/-! 54: internal/strconv.Atoi -/
inductive Si_strconv_Atoi_0 where
  | s0 (s05 : ByteArray) (n6 : Int) (t47 : List AV) (t48 : Int) (t49 : Int)

inductive Oi_strconv_Atoi_0 where
  | x0 (t2 : Int) (t3i : Int) (s05 : ByteArray) (n6 : Int)
  | x1 (s05 : ByteArray) (n6 : Int)

def Oi_strconv_Atoi_0.k {β : Type} (o : Oi_strconv_Atoi_0) (c0 : Int → Int → ByteArray → Int → Option β) (c1 : ByteArray → Int → Option β) : Option β := match o with
  | .x0 t2 t3i s05 n6 => c0 t2 t3i s05 n6
  | .x1 s05 n6 => c1 s05 n6

def Ei_strconv_Atoi_0 : Si_strconv_Atoi_0 → Env
  | .s0 s05 n6 t47 t48 t49 => [.dead, .dead, .dead, .dead, .dead, (.v (.string s05)), (.v (.int .i64 n6)), .dead, .dead, .dead, .dead, .dead, .dead, .dead, .dead, .dead, .dead, .dead, .dead, .dead, .dead, .dead, .dead, .dead, .dead, .dead, .dead, .dead, .dead, .dead, .dead, .dead, .dead, .dead, .dead, .dead, .dead, .dead, .dead, .dead, .dead, .dead, .dead, .dead, .dead, .dead, .dead, (.lst 1 false t47), (.v (.int .i64 t48)), (.v (.int .i64 t49)), .dead, .dead, .dead, .dead, .dead, .dead, .dead, .dead, .dead, .dead, .dead, .dead, .dead, .dead, .dead, .dead, .dead, .dead, .dead, .dead, .dead, .dead, .dead, .dead, .dead, .dead, .dead]

def Hi_strconv_Atoi_0 : Si_strconv_Atoi_0 → Heap
  | .s0 s05 n6 t47 t48 t49 => []

def Ti_strconv_Atoi_0 {β : Type} (k : Ex → Env → Heap → Option β) (o : Oi_strconv_Atoi_0) : Option β := Oi_strconv_Atoi_0.k o (fun t2 t3i s05 n6 => k .ret [.dead, .dead, (.v (.int .i64 t2)), (.iface 90 (.v (.int .i64 t3i))), .dead, (.v (.string s05)), (.v (.int .i64 n6)), .dead, .dead, .dead, .dead, .dead, .dead, .dead, .dead, .dead, .dead, .dead, .dead, .dead, .dead, .dead, .dead, .dead, .dead, .dead, .dead, .dead, .dead, .dead, .dead, .dead, .dead, .dead, .dead, .dead, .dead, .dead, .dead, .dead, .dead, .dead, .dead, .dead, .dead, .dead, .dead, .dead, .dead, .dead, .dead, .dead, .dead, .dead, .dead, .dead, .dead, .dead, .dead, .dead, .dead, .dead, .dead, .dead, .dead, .dead, .dead, .dead, .dead, .dead, .dead, .dead, .dead, .dead, .dead, .dead, .dead] []) (fun s05 n6 => k (.exit 0) [.dead, .dead, .dead, .dead, .dead, (.v (.string s05)), (.v (.int .i64 n6)), .dead, .dead, .dead, .dead, .dead, .dead, .dead, .dead, .dead, .dead, .dead, .dead, .dead, .dead, .dead, .dead, .dead, .dead, .dead, .dead, .dead, .dead, .dead, .dead, .dead, .dead, .dead, .dead, .dead, .dead, .dead, .dead, .dead, .dead, .dead, .dead, .dead, .dead, .dead, .dead, .dead, .dead, .dead, .dead, .dead, .dead, .dead, .dead, .dead, .dead, .dead, .dead, .dead, .dead, .dead, .dead, .dead, .dead, .dead, .dead, .dead, .dead, .dead, .dead, .dead, .dead, .dead, .dead, .dead, .dead] [])

def Fi_strconv_Atoi_0 (li_strconv_Atoi_0 : Si_strconv_Atoi_0 → Option Oi_strconv_Atoi_0) : LoopF := ⟨fun e h k => match Nat.beq e.length 77 with
  | true => (match e.getD 5 .dead, e.getD 6 .dead, e.getD 47 .dead, e.getD 48 .dead, e.getD 49 .dead, h with
    | (.v (.string s05)), (.v (.int .i64 n6)), (.lst 1 false t47), (.v (.int .i64 t48)), (.v (.int .i64 t49)), [] => optK (li_strconv_Atoi_0 (.s0 s05 n6 t47 t48 t49)) (Ti_strconv_Atoi_0 k)
    | _, _, _, _, _, _ => none)
  | false => none⟩

def cli_strconv_Atoi_0 : List Tmp := [0, 1, 2, 3, 4, 7, 8, 9, 10, 11, 12, 13, 14, 15, 16, 17, 18, 19, 20, 21, 22, 23, 24, 25, 26, 27, 28, 29, 30, 31, 32, 33, 34, 35, 36, 37, 38, 39, 40, 41, 42, 43, 44, 45, 46, 50, 51, 52, 53, 54, 55, 56, 57, 58, 59, 60, 61, 62, 63, 64, 65, 66, 67, 68, 69, 70, 71, 72, 73, 74, 75, 76]
def cloi_strconv_Atoi_0 : List Tmp := [0, 1, 4, 7, 8, 9, 10, 11, 12, 13, 14, 15, 16, 17, 18, 19, 20, 21, 22, 23, 24, 25, 26, 27, 28, 29, 30, 31, 32, 33, 34, 35, 36, 37, 38, 39, 40, 41, 42, 43, 44, 45, 46, 47, 48, 49, 50, 51, 52, 53, 54, 55, 56, 57, 58, 59, 60, 61, 62, 63, 64, 65, 66, 67, 68, 69, 70, 71, 72, 73, 74, 75, 76]

noncomputable def Ri_strconv_Atoi_0 {β : Type} (K : PureK) (d : Oi_strconv_Atoi_0 → Option β) (r : Si_strconv_Atoi_0 → Option β) : Si_strconv_Atoi_0 → Option β
  | .s0 s05 n6 t47 t48 t49 =>
    br (decide (t49 < t48))
      (br (decide (0 ≤ t49))
        (br (decide (t49 < ((t47.length : Nat) : Int)))
          (optK t47[t49.toNat]? fun wv1 =>
          Ab.asInt wv1 .u8 fun wn2 =>
          br (decide (w8 (wn2 - 48) > 9))
            (d (.x0 0 2 s05 n6))
            (r (.s0 s05 (w64 (w64 (n6 * 10) + w64 (w8 (wn2 - 48)))) t47 t48 (w64 (t49 + 1)))))
          (none))
        (none))
      (d (.x1 s05 n6))
theorem roundi_strconv_Atoi_0 (K : PureK) {β : Type} (r : Env → Heap → Option β) (k : Ex → Env → Heap → Option β) (s : Si_strconv_Atoi_0) : tellOne X K 0 54 0 [(0, 1, 0), (1, 1, 0), (2, 1, 0)] 0 cli_strconv_Atoi_0 cloi_strconv_Atoi_0 r k (Ei_strconv_Atoi_0 s) (Hi_strconv_Atoi_0 s) = Ri_strconv_Atoi_0 K (Ti_strconv_Atoi_0 k) (fun s => r (Ei_strconv_Atoi_0 s) (Hi_strconv_Atoi_0 s)) s := by
  cases s <;> kernel_rfl
theorem Oi_strconv_Atoi_0.bind_k {β γ : Type} (o : Oi_strconv_Atoi_0) (c0 : Int → Int → ByteArray → Int → Option β) (c1 : ByteArray → Int → Option β) (φ : β → Option γ) : (Oi_strconv_Atoi_0.k o c0 c1).bind φ = Oi_strconv_Atoi_0.k o (fun t2 t3i s05 n6 => (c0 t2 t3i s05 n6).bind φ) (fun s05 n6 => (c1 s05 n6).bind φ) := by cases o <;> rfl
theorem nati_strconv_Atoi_0 (K : PureK) {β γ : Type} (φ : β → Option γ) (d : Oi_strconv_Atoi_0 → Option β) (r : Si_strconv_Atoi_0 → Option β) (s : Si_strconv_Atoi_0) : Ri_strconv_Atoi_0 K (fun o => (d o).bind φ) (fun s => (r s).bind φ) s = (Ri_strconv_Atoi_0 K d r s).bind φ := by
  cases s <;> simp only [Ri_strconv_Atoi_0, bind_optK, bind_br, bind_asInt, bind_asBool, bind_asStr, bind_asLst, bind_asAgg, bind_asTup, bind_asBig, bind_asErr, bind_none]
theorem outi_strconv_Atoi_0 (o : Oi_strconv_Atoi_0) : ∃ x e' h', ∀ {β : Type} (k : Ex → Env → Heap → Option β), Ti_strconv_Atoi_0 k o = k x e' h' := by cases o <;> exact ⟨_, _, _, fun _ => rfl⟩
theorem oki_strconv_Atoi_0 {K : PureK} (hX : Sound X) (hK : KOk X K) {li_strconv_Atoi_0 : Si_strconv_Atoi_0 → Option Oi_strconv_Atoi_0} (hl : ∀ s o, li_strconv_Atoi_0 s = some o → ∃ m, fuelRec (Ri_strconv_Atoi_0 K some) m s = some o) (β : Type) (e : Env) (h : Heap) (k : Ex → Env → Heap → Option β) (r : β) (hr : (Fi_strconv_Atoi_0 li_strconv_Atoi_0).run e h k = some r) : ∃ x e' h', k x e' h' = some r ∧ CodeAt X (.loop (loopBody (X).P 54 0)) e h x e' h' := by
  obtain ⟨fn, c, hin⟩ := loopIn_of (X := X) (f := 54) (i := 0) (key := 10) (by kernel_rfl)
  simp only [Fi_strconv_Atoi_0] at hr
  split at hr
  · rename_i hlen
    have hlen := Nat.eq_of_beq_eq_true hlen
    split at hr
    · rename_i q5 q6 q47 q48 q49
      obtain ⟨o, ho, hr⟩ := optK_some hr
      refine tell_ok hX (KOk.congr (X := X) (Y := X) rfl rfl hK) hin (E := Ei_strconv_Atoi_0) (H := Hi_strconv_Atoi_0) (R := fun d r => Ri_strconv_Atoi_0 K d r) (T := Ti_strconv_Atoi_0) (ts := [(0, 1, 0), (1, 1, 0), (2, 1, 0)]) (len := 0) (cl := cli_strconv_Atoi_0) (clo := cloi_strconv_Atoi_0) (roundi_strconv_Atoi_0 K) (nati_strconv_Atoi_0 K) outi_strconv_Atoi_0 (hl _ _ ho) (cl0 := cli_strconv_Atoi_0) (ts0 := []) ?_ rfl (by kernel_rfl) (by kernel_rfl) hr
      rw [clear_lit e 77 hlen, show clearEnv cli_strconv_Atoi_0 ((List.range 77).map fun i => e.getD i .dead) = [.dead, .dead, .dead, .dead, .dead, e.getD 5 .dead, e.getD 6 .dead, .dead, .dead, .dead, .dead, .dead, .dead, .dead, .dead, .dead, .dead, .dead, .dead, .dead, .dead, .dead, .dead, .dead, .dead, .dead, .dead, .dead, .dead, .dead, .dead, .dead, .dead, .dead, .dead, .dead, .dead, .dead, .dead, .dead, .dead, .dead, .dead, .dead, .dead, .dead, .dead, e.getD 47 .dead, e.getD 48 .dead, e.getD 49 .dead, .dead, .dead, .dead, .dead, .dead, .dead, .dead, .dead, .dead, .dead, .dead, .dead, .dead, .dead, .dead, .dead, .dead, .dead, .dead, .dead, .dead, .dead, .dead, .dead, .dead, .dead, .dead] from by kernel_rfl]; rw [q5, q6, q47, q48, q49]
      kernel_rfl
    · cases hr
  · cases hr
noncomputable def Ri_strconv_Atoi (K : PureK) (li_strconv_Atoi_0 : Si_strconv_Atoi_0 → Option Oi_strconv_Atoi_0) (s0 : ByteArray) : Option AV :=
  optK (br (decide (0 < ((s0.size : Nat) : Int)))
        (some (bv (decide (((s0.size : Nat) : Int) < 19))))
        (some (bv false))) fun wv5 =>
    Ab.asBool wv5 fun wb6 =>
    br wb6
      (optK (br (decide (0 < ((s0.size : Nat) : Int)))
          (br (bt s0 0 == 45)
            (some (bv true))
            (br (decide (0 < ((s0.size : Nat) : Int)))
              (some (bv (bt s0 0 == 43)))
              (none)))
          (none)) fun wv7 =>
      Ab.asBool wv7 fun wb8 =>
      br wb8
        (br (decide (1 ≤ ((s0.size : Nat) : Int)))
          (br (decide ((((cutStr s0 (some 1) none).size : Nat) : Int) < 1))
            (some (AV.tup [iv 0, AV.iface 90 (iv 2)]))
            (optK (li_strconv_Atoi_0 (Si_strconv_Atoi_0.s0 s0 0 (bytesRows (cutStr s0 (some 1) none)) ((((bytesRows (cutStr s0 (some 1) none)).length : Nat) : Int)) 0)) fun wo9 => Oi_strconv_Atoi_0.k wo9
              (fun (t2_10 : Int) (t3i_10 : Int) (s05_10 : ByteArray) (n6_10 : Int) => some (AV.tup [iv t2_10, AV.iface 90 (iv t3i_10)]))
              (fun (s05_11 : ByteArray) (n6_11 : Int) => br (decide (0 < ((s05_11.size : Nat) : Int)))
                (br (bt s05_11 0 == 45)
                  (some (AV.tup [iv (w64 (0 - n6_11)), AV.v Value.nilIface]))
                  (some (AV.tup [iv n6_11, AV.v Value.nilIface])))
                (none))))
          (none))
        (optK (li_strconv_Atoi_0 (Si_strconv_Atoi_0.s0 s0 0 (bytesRows s0) ((((bytesRows s0).length : Nat) : Int)) 0)) fun wo12 => Oi_strconv_Atoi_0.k wo12
          (fun (t2_13 : Int) (t3i_13 : Int) (s05_13 : ByteArray) (n6_13 : Int) => some (AV.tup [iv t2_13, AV.iface 90 (iv t3i_13)]))
          (fun (s05_14 : ByteArray) (n6_14 : Int) => br (decide (0 < ((s05_14.size : Nat) : Int)))
            (br (bt s05_14 0 == 45)
              (some (AV.tup [iv (w64 (0 - n6_14)), AV.v Value.nilIface]))
              (some (AV.tup [iv n6_14, AV.v Value.nilIface])))
            (none))))
      (optK (K f_i_strconv_ParseInt [sv s0, iv 10, iv 0]) fun wv15 =>
      Ab.asTup wv15 2 fun wg16 =>
      Ab.asInt (wg16 0) .i64 fun wn17 =>
      br (refFree (AV.tup [iv wn17, (wg16 1)]))
        (br (refFree (AV.tup [iv wn17, (wg16 1)]))
          (some (AV.tup [iv wn17, (wg16 1)]))
          (none))
        (none))
theorem topi_strconv_Atoi (K : PureK) (li_strconv_Atoi_0 : Si_strconv_Atoi_0 → Option Oi_strconv_Atoi_0) (s0 : ByteArray) : topK (addLp X 54 10 (Fi_strconv_Atoi_0 li_strconv_Atoi_0)) K 0 f_i_strconv_Atoi [(.v (.string s0))] = Ri_strconv_Atoi K li_strconv_Atoi_0 s0 := by kernel_rfl
theorem pci_strconv_Atoi {K : PureK} (hK : KOk X K) {li_strconv_Atoi_0 : Si_strconv_Atoi_0 → Option Oi_strconv_Atoi_0} (hi_strconv_Atoi_0 : ∀ s o, li_strconv_Atoi_0 s = some o → ∃ m, fuelRec (Ri_strconv_Atoi_0 K some) m s = some o) {s0 : ByteArray} {v : AV} (h : Ri_strconv_Atoi K li_strconv_Atoi_0 s0 = some v) : PureCall X f_i_strconv_Atoi [(.v (.string s0))] v := by
  have hSo0 := soundX
  obtain ⟨_, _, hin0⟩ := loopIn_of (X := X) (f := 54) (i := 0) (key := 10) (by kernel_rfl)
  have hSo1 := sound_add hSo0 hin0 (oki_strconv_Atoi_0 hSo0 hK hi_strconv_Atoi_0)
  exact tell_top (X := X) (Y := (addLp X 54 10 (Fi_strconv_Atoi_0 li_strconv_Atoi_0))) rfl rfl hSo1 hK ((topi_strconv_Atoi K li_strconv_Atoi_0 s0).trans h)

/-! 40: strconv.Atoi -/
noncomputable def Rstrconv_Atoi (K : PureK) (s0 : ByteArray) : Option AV :=
  optK (K f_i_strconv_Atoi [sv s0]) fun wv1 =>
    Ab.asTup wv1 2 fun wg2 =>
    Ab.asInt (wg2 0) .i64 fun wn3 =>
    br (refFree (AV.tup [iv wn3, (wg2 1)]))
      (asErr (wg2 1)
        (some (AV.tup [iv wn3, AV.v Value.nilIface]))
        (fun wt4 wi4 => none))
      (none)
theorem topstrconv_Atoi (K : PureK) (s0 : ByteArray) : topK (withStop X [55]) K 0 f_strconv_Atoi [(.v (.string s0))] = Rstrconv_Atoi K s0 := by kernel_rfl
theorem pcstrconv_Atoi {K : PureK} (hK : KOk X K) {s0 : ByteArray} {v : AV} (h : Rstrconv_Atoi K s0 = some v) : PureCall X f_strconv_Atoi [(.v (.string s0))] v := by
  have hSo0 := (sound_stop soundX [55])
  exact tell_top (X := X) (Y := (withStop X [55])) rfl rfl hSo0 hK ((topstrconv_Atoi K s0).trans h)

end Go.Proofs.YtmiffikcnkgcpaaDoor
