import Derived.Test.YtphbfkncimifoaaDoorCtx
set_option maxRecDepth 100000
set_option linter.unusedVariables false
set_option linter.unusedSimpArgs false
namespace Go.Proofs.YtphbfkncimifoaaDoor
open Go Go.Ab
/-! 31: bytes.IndexByte -/
noncomputable def Rbytes_IndexByte (K : PureK) (b0n : Bool) (b0 : List AV) (c1 : Int) : Option AV :=
  optK (K f_i_bytealg_IndexByte [AV.lst 1 b0n b0, uv c1]) fun wv1 =>
    Ab.asInt wv1 .i64 fun wn2 =>
    some (iv wn2)
theorem topbytes_IndexByte (K : PureK) (b0n : Bool) (b0 : List AV) (c1 : Int) : topK X K 0 f_bytes_IndexByte [(.lst 1 b0n b0), (.v (.int .u8 c1))] = Rbytes_IndexByte K b0n b0 c1 := by kernel_rfl
theorem pcbytes_IndexByte {K : PureK} (hK : KOk X K) {b0n : Bool} {b0 : List AV} {c1 : Int} {v : AV} (h : Rbytes_IndexByte K b0n b0 c1 = some v) : PureCall X f_bytes_IndexByte [(.lst 1 b0n b0), (.v (.int .u8 c1))] v := by
  have hSo0 := soundX
  exact tell_top (X := X) (Y := X) rfl rfl hSo0 hK ((topbytes_IndexByte K b0n b0 c1).trans h)

/-! 33: strings.TrimSuffix -/
noncomputable def Rstrings_TrimSuffix (K : PureK) (s0 : ByteArray) (suffix1 : ByteArray) : Option AV :=
  optK (K f_i_stringslite_TrimSuffix [sv s0, sv suffix1]) fun wv1 =>
    Ab.asStr wv1 fun ws2 =>
    some (sv ws2)
theorem topstrings_TrimSuffix (K : PureK) (s0 : ByteArray) (suffix1 : ByteArray) : topK X K 0 f_strings_TrimSuffix [(.v (.string s0)), (.v (.string suffix1))] = Rstrings_TrimSuffix K s0 suffix1 := by kernel_rfl
theorem pcstrings_TrimSuffix {K : PureK} (hK : KOk X K) {s0 : ByteArray} {suffix1 : ByteArray} {v : AV} (h : Rstrings_TrimSuffix K s0 suffix1 = some v) : PureCall X f_strings_TrimSuffix [(.v (.string s0)), (.v (.string suffix1))] v := by
  have hSo0 := soundX
  exact tell_top (X := X) (Y := X) rfl rfl hSo0 hK ((topstrings_TrimSuffix K s0 suffix1).trans h)

/-! 39: internal/stringslite.TrimSuffix -/
noncomputable def Ri_stringslite_TrimSuffix (K : PureK) (s0 : ByteArray) (suffix1 : ByteArray) : Option AV :=
  optK (K f_i_stringslite_HasSuffix [sv s0, sv suffix1]) fun wv1 =>
    Ab.asBool wv1 fun wb2 =>
    br wb2
      (br (decide (0 ≤ w64 (((s0.size : Nat) : Int) - ((suffix1.size : Nat) : Int))))
        (br (decide (w64 (((s0.size : Nat) : Int) - ((suffix1.size : Nat) : Int)) ≤ ((s0.size : Nat) : Int)))
          (some (sv (cutStr s0 none (some (w64 (((s0.size : Nat) : Int) - ((suffix1.size : Nat) : Int)))))))
          (none))
        (none))
      (some (sv s0))
theorem topi_stringslite_TrimSuffix (K : PureK) (s0 : ByteArray) (suffix1 : ByteArray) : topK X K 0 f_i_stringslite_TrimSuffix [(.v (.string s0)), (.v (.string suffix1))] = Ri_stringslite_TrimSuffix K s0 suffix1 := by kernel_rfl
theorem pci_stringslite_TrimSuffix {K : PureK} (hK : KOk X K) {s0 : ByteArray} {suffix1 : ByteArray} {v : AV} (h : Ri_stringslite_TrimSuffix K s0 suffix1 = some v) : PureCall X f_i_stringslite_TrimSuffix [(.v (.string s0)), (.v (.string suffix1))] v := by
  have hSo0 := soundX
  exact tell_top (X := X) (Y := X) rfl rfl hSo0 hK ((topi_stringslite_TrimSuffix K s0 suffix1).trans h)

/-! 35: bytes.Cut -/
noncomputable def Rbytes_Cut (K : PureK) (s0n : Bool) (s0 : List AV) (sep1n : Bool) (sep1 : List AV) : Option AV :=
  optK (K f_bytes_Index [AV.lst 1 s0n s0, AV.lst 1 sep1n sep1]) fun wv1 =>
    Ab.asInt wv1 .i64 fun wn2 =>
    br (decide (wn2 ≥ 0))
      (br (decide (0 ≤ wn2))
        (br (decide (wn2 ≤ ((s0.length : Nat) : Int)))
          (br (decide (0 ≤ w64 (wn2 + ((sep1.length : Nat) : Int))))
            (br (decide (w64 (wn2 + ((sep1.length : Nat) : Int)) ≤ ((s0.length : Nat) : Int)))
              (some (AV.tup [AV.lst 1 s0n (List.take wn2.toNat s0), AV.lst 1 s0n (List.drop (w64 (wn2 + ((sep1.length : Nat) : Int))).toNat s0), bv true]))
              (none))
            (none))
          (none))
        (none))
      (some (AV.tup [AV.lst 1 s0n s0, AV.lst 1 true [], bv false]))
theorem topbytes_Cut (K : PureK) (s0n : Bool) (s0 : List AV) (sep1n : Bool) (sep1 : List AV) : topK X K 0 f_bytes_Cut [(.lst 1 s0n s0), (.lst 1 sep1n sep1)] = Rbytes_Cut K s0n s0 sep1n sep1 := by kernel_rfl
theorem pcbytes_Cut {K : PureK} (hK : KOk X K) {s0n : Bool} {s0 : List AV} {sep1n : Bool} {sep1 : List AV} {v : AV} (h : Rbytes_Cut K s0n s0 sep1n sep1 = some v) : PureCall X f_bytes_Cut [(.lst 1 s0n s0), (.lst 1 sep1n sep1)] v := by
  have hSo0 := soundX
  exact tell_top (X := X) (Y := X) rfl rfl hSo0 hK ((topbytes_Cut K s0n s0 sep1n sep1).trans h)

/-! 34: slices.Concat[[]string,string] -/
inductive Sslices_Concat_string_string_0 where
  | s0 (slices0n : Bool) (slices0 : List AV) (size3 : Int) (t9n : Bool) (t9 : List AV) (t10 : Int) (t11 : Int)

inductive Oslices_Concat_string_string_0 where
  | x0 (slices0n : Bool) (slices0 : List AV) (size3 : Int)

def Oslices_Concat_string_string_0.k {β : Type} (o : Oslices_Concat_string_string_0) (c0 : Bool → (List AV) → Int → Option β) : Option β := match o with
  | .x0 slices0n slices0 size3 => c0 slices0n slices0 size3

def Eslices_Concat_string_string_0 : Sslices_Concat_string_string_0 → Env
  | .s0 slices0n slices0 size3 t9n t9 t10 t11 => [(.lst 1 slices0n slices0), .dead, .dead, (.v (.int .i64 size3)), .dead, .dead, .dead, .dead, .dead, (.lst 1 t9n t9), (.v (.int .i64 t10)), (.v (.int .i64 t11)), .dead, .dead, .dead, .dead, .dead, .dead, .dead, .dead, .dead, .dead, .dead, .dead, .dead, .dead, .dead, .dead, .dead, .dead, .dead, .dead, .dead, .dead, .dead, .dead]

def Hslices_Concat_string_string_0 : Sslices_Concat_string_string_0 → Heap
  | .s0 slices0n slices0 size3 t9n t9 t10 t11 => []

def Tslices_Concat_string_string_0 {β : Type} (k : Ex → Env → Heap → Option β) (o : Oslices_Concat_string_string_0) : Option β := Oslices_Concat_string_string_0.k o (fun slices0n slices0 size3 => k (.exit 0) [(.lst 1 slices0n slices0), .dead, .dead, (.v (.int .i64 size3)), .dead, .dead, .dead, .dead, .dead, .dead, .dead, .dead, .dead, .dead, .dead, .dead, .dead, .dead, .dead, .dead, .dead, .dead, .dead, .dead, .dead, .dead, .dead, .dead, .dead, .dead, .dead, .dead, .dead, .dead, .dead, .dead] [])

def Fslices_Concat_string_string_0 (lslices_Concat_string_string_0 : Sslices_Concat_string_string_0 → Option Oslices_Concat_string_string_0) : LoopF := ⟨fun e h k => match Nat.beq e.length 36 with
  | true => (match e.getD 0 .dead, e.getD 3 .dead, e.getD 9 .dead, e.getD 10 .dead, e.getD 11 .dead, h with
    | (.lst 1 slices0n slices0), (.v (.int .i64 size3)), (.lst 1 t9n t9), (.v (.int .i64 t10)), (.v (.int .i64 t11)), [] => optK (lslices_Concat_string_string_0 (.s0 slices0n slices0 size3 t9n t9 t10 t11)) (Tslices_Concat_string_string_0 k)
    | _, _, _, _, _, _ => none)
  | false => none⟩

def clslices_Concat_string_string_0 : List Tmp := [1, 2, 4, 5, 6, 7, 8, 12, 13, 14, 15, 16, 17, 18, 19, 20, 21, 22, 23, 24, 25, 26, 27, 28, 29, 30, 31, 32, 33, 34, 35]
def closlices_Concat_string_string_0 : List Tmp := [1, 2, 4, 5, 6, 7, 8, 9, 10, 11, 12, 13, 14, 15, 16, 17, 18, 19, 20, 21, 22, 23, 24, 25, 26, 27, 28, 29, 30, 31, 32, 33, 34, 35]

noncomputable def Rslices_Concat_string_string_0 {β : Type} (K : PureK) (d : Oslices_Concat_string_string_0 → Option β) (r : Sslices_Concat_string_string_0 → Option β) : Sslices_Concat_string_string_0 → Option β
  | .s0 slices0n slices0 size3 t9n t9 t10 t11 =>
    br (decide (t11 < t10))
      (br (decide (0 ≤ t11))
        (br (decide (t11 < ((t9.length : Nat) : Int)))
          (optK t9[t11.toNat]? fun wv1 =>
          Ab.asLst wv1 1 fun wb2 wr2 =>
          br (decide (w64 (size3 + ((wr2.length : Nat) : Int)) < 0))
            (none)
            (r (.s0 slices0n slices0 (w64 (size3 + ((wr2.length : Nat) : Int))) t9n t9 t10 (w64 (t11 + 1)))))
          (none))
        (none))
      (d (.x0 slices0n slices0 size3))
theorem roundslices_Concat_string_string_0 (K : PureK) {β : Type} (r : Env → Heap → Option β) (k : Ex → Env → Heap → Option β) (s : Sslices_Concat_string_string_0) : tellOne X K 0 34 0 [(0, 1, 0), (1, 1, 0), (2, 1, 0)] 0 clslices_Concat_string_string_0 closlices_Concat_string_string_0 r k (Eslices_Concat_string_string_0 s) (Hslices_Concat_string_string_0 s) = Rslices_Concat_string_string_0 K (Tslices_Concat_string_string_0 k) (fun s => r (Eslices_Concat_string_string_0 s) (Hslices_Concat_string_string_0 s)) s := by
  cases s <;> kernel_rfl
theorem Oslices_Concat_string_string_0.bind_k {β γ : Type} (o : Oslices_Concat_string_string_0) (c0 : Bool → (List AV) → Int → Option β) (φ : β → Option γ) : (Oslices_Concat_string_string_0.k o c0).bind φ = Oslices_Concat_string_string_0.k o (fun slices0n slices0 size3 => (c0 slices0n slices0 size3).bind φ) := by cases o <;> rfl
theorem natslices_Concat_string_string_0 (K : PureK) {β γ : Type} (φ : β → Option γ) (d : Oslices_Concat_string_string_0 → Option β) (r : Sslices_Concat_string_string_0 → Option β) (s : Sslices_Concat_string_string_0) : Rslices_Concat_string_string_0 K (fun o => (d o).bind φ) (fun s => (r s).bind φ) s = (Rslices_Concat_string_string_0 K d r s).bind φ := by
  cases s <;> simp only [Rslices_Concat_string_string_0, bind_optK, bind_br, bind_asInt, bind_asBool, bind_asStr, bind_asLst, bind_asAgg, bind_asTup, bind_asBig, bind_asErr, bind_none]
theorem outslices_Concat_string_string_0 (o : Oslices_Concat_string_string_0) : ∃ x e' h', ∀ {β : Type} (k : Ex → Env → Heap → Option β), Tslices_Concat_string_string_0 k o = k x e' h' := by cases o <;> exact ⟨_, _, _, fun _ => rfl⟩
theorem okslices_Concat_string_string_0 {K : PureK} (hX : Sound X) (hK : KOk X K) {lslices_Concat_string_string_0 : Sslices_Concat_string_string_0 → Option Oslices_Concat_string_string_0} (hl : ∀ s o, lslices_Concat_string_string_0 s = some o → ∃ m, fuelRec (Rslices_Concat_string_string_0 K some) m s = some o) (β : Type) (e : Env) (h : Heap) (k : Ex → Env → Heap → Option β) (r : β) (hr : (Fslices_Concat_string_string_0 lslices_Concat_string_string_0).run e h k = some r) : ∃ x e' h', k x e' h' = some r ∧ CodeAt X (.loop (loopBody (X).P 34 0)) e h x e' h' := by
  obtain ⟨fn, c, hin⟩ := loopIn_of (X := X) (f := 34) (i := 0) (key := 3) (by kernel_rfl)
  simp only [Fslices_Concat_string_string_0] at hr
  split at hr
  · rename_i hlen
    have hlen := Nat.eq_of_beq_eq_true hlen
    split at hr
    · rename_i q0 q3 q9 q10 q11
      obtain ⟨o, ho, hr⟩ := optK_some hr
      refine tell_ok hX (KOk.congr (X := X) (Y := X) rfl rfl hK) hin (E := Eslices_Concat_string_string_0) (H := Hslices_Concat_string_string_0) (R := fun d r => Rslices_Concat_string_string_0 K d r) (T := Tslices_Concat_string_string_0) (ts := [(0, 1, 0), (1, 1, 0), (2, 1, 0)]) (len := 0) (cl := clslices_Concat_string_string_0) (clo := closlices_Concat_string_string_0) (roundslices_Concat_string_string_0 K) (natslices_Concat_string_string_0 K) outslices_Concat_string_string_0 (hl _ _ ho) (cl0 := clslices_Concat_string_string_0) (ts0 := []) ?_ rfl (by kernel_rfl) (by kernel_rfl) hr
      rw [clear_lit e 36 hlen, show clearEnv clslices_Concat_string_string_0 ((List.range 36).map fun i => e.getD i .dead) = [e.getD 0 .dead, .dead, .dead, e.getD 3 .dead, .dead, .dead, .dead, .dead, .dead, e.getD 9 .dead, e.getD 10 .dead, e.getD 11 .dead, .dead, .dead, .dead, .dead, .dead, .dead, .dead, .dead, .dead, .dead, .dead, .dead, .dead, .dead, .dead, .dead, .dead, .dead, .dead, .dead, .dead, .dead, .dead, .dead] from by kernel_rfl]; rw [q0, q3, q9, q10, q11]
      kernel_rfl
    · cases hr
  · cases hr
inductive Sslices_Concat_string_string_1 where
  | s0 (t25n : Bool) (t25 : List AV) (t26 : Int) (t27 : Int) (obj0 : List AV)
  | s1 (t25n : Bool) (t25 : List AV) (t26 : Int) (t27 : Int) (obj0 : List AV)

inductive Oslices_Concat_string_string_1 where
  | x0 (obj0 : List AV)
  | x1 (obj0 : List AV)

def Oslices_Concat_string_string_1.k {β : Type} (o : Oslices_Concat_string_string_1) (c0 : (List AV) → Option β) (c1 : (List AV) → Option β) : Option β := match o with
  | .x0 obj0 => c0 obj0
  | .x1 obj0 => c1 obj0

def Eslices_Concat_string_string_1 : Sslices_Concat_string_string_1 → Env
  | .s0 t25n t25 t26 t27 obj0 => [.dead, .dead, .dead, .dead, .dead, .dead, (.own 0 1 0 (some 0)), .dead, .dead, .dead, .dead, .dead, .dead, .dead, .dead, .dead, .dead, .dead, .dead, .dead, .dead, .dead, .dead, .dead, .dead, (.lst 1 t25n t25), (.v (.int .i64 t26)), (.v (.int .i64 t27)), .dead, .dead, .dead, .dead, .dead, .dead, .dead, .dead]
  | .s1 t25n t25 t26 t27 obj0 => [.dead, .dead, .dead, .dead, .dead, .dead, (.own 0 1 0 none), .dead, .dead, .dead, .dead, .dead, .dead, .dead, .dead, .dead, .dead, .dead, .dead, .dead, .dead, .dead, .dead, .dead, .dead, (.lst 1 t25n t25), (.v (.int .i64 t26)), (.v (.int .i64 t27)), .dead, .dead, .dead, .dead, .dead, .dead, .dead, .dead]

def Hslices_Concat_string_string_1 : Sslices_Concat_string_string_1 → Heap
  | .s0 t25n t25 t26 t27 obj0 => [⟨obj0, 1, 0, true, false, 9, 1, none⟩]
  | .s1 t25n t25 t26 t27 obj0 => [⟨obj0, 1, 0, true, false, 9, 1, none⟩]

def Tslices_Concat_string_string_1 {β : Type} (k : Ex → Env → Heap → Option β) (o : Oslices_Concat_string_string_1) : Option β := Oslices_Concat_string_string_1.k o (fun obj0 => k (.exit 2) [.dead, .dead, .dead, .dead, .dead, .dead, (.own 0 1 0 (some 0)), .dead, .dead, .dead, .dead, .dead, .dead, .dead, .dead, .dead, .dead, .dead, .dead, .dead, .dead, .dead, .dead, .dead, .dead, .dead, .dead, .dead, .dead, .dead, .dead, .dead, .dead, .dead, .dead, .dead] [⟨obj0, 1, 0, true, false, 9, 1, none⟩]) (fun obj0 => k (.exit 2) [.dead, .dead, .dead, .dead, .dead, .dead, (.own 0 1 0 none), .dead, .dead, .dead, .dead, .dead, .dead, .dead, .dead, .dead, .dead, .dead, .dead, .dead, .dead, .dead, .dead, .dead, .dead, .dead, .dead, .dead, .dead, .dead, .dead, .dead, .dead, .dead, .dead, .dead] [⟨obj0, 1, 0, true, false, 9, 1, none⟩])

def Fslices_Concat_string_string_1 (lslices_Concat_string_string_1 : Sslices_Concat_string_string_1 → Option Oslices_Concat_string_string_1) : LoopF := ⟨fun e h k => match Nat.beq e.length 36 with
  | true => (match e.getD 6 .dead, e.getD 25 .dead, e.getD 26 .dead, e.getD 27 .dead, h with
    | (.own 0 0 0 (some 0)), (.lst 1 t25n t25), (.v (.int .i64 t26)), (.v (.int .i64 t27)), [⟨obj0, 0, 0, true, false, 9, 1, none⟩] => optK (lslices_Concat_string_string_1 (.s0 t25n t25 t26 t27 obj0)) (Tslices_Concat_string_string_1 k)
    | _, _, _, _, _ => none)
  | false => none⟩

def clslices_Concat_string_string_1 : List Tmp := [0, 1, 2, 3, 4, 5, 7, 8, 9, 10, 11, 12, 13, 14, 15, 16, 17, 18, 19, 20, 21, 22, 23, 24, 28, 29, 30, 31, 32, 33, 34, 35]
def closlices_Concat_string_string_1 : List Tmp := [0, 1, 2, 3, 4, 5, 7, 8, 9, 10, 11, 12, 13, 14, 15, 16, 17, 18, 19, 20, 21, 22, 23, 24, 25, 26, 27, 28, 29, 30, 31, 32, 33, 34, 35]

noncomputable def Rslices_Concat_string_string_1 {β : Type} (K : PureK) (d : Oslices_Concat_string_string_1 → Option β) (r : Sslices_Concat_string_string_1 → Option β) : Sslices_Concat_string_string_1 → Option β
  | .s0 t25n t25 t26 t27 obj0 =>
    br (decide (t27 < t26))
      (br (decide (0 ≤ t27))
        (br (decide (t27 < ((t25.length : Nat) : Int)))
          (optK t25[t27.toNat]? fun wv1 =>
          Ab.asLst wv1 1 fun wb2 wr2 =>
          br (lenOk (0 + wr2.length) 16 && lenOk (0 + wr2.length) 1)
            (r (.s1 t25n t25 t26 (w64 (t27 + 1)) ([] ++ wr2)))
            (none))
          (none))
        (none))
      (d (.x0 obj0))
  | .s1 t25n t25 t26 t27 obj0 =>
    br (decide (t27 < t26))
      (br (decide (0 ≤ t27))
        (br (decide (t27 < ((t25.length : Nat) : Int)))
          (optK t25[t27.toNat]? fun wv3 =>
          Ab.asLst wv3 1 fun wb4 wr4 =>
          br (lenOk (obj0.length + wr4.length) 16 && lenOk (obj0.length + wr4.length) 1)
            (r (.s1 t25n t25 t26 (w64 (t27 + 1)) (obj0 ++ wr4)))
            (none))
          (none))
        (none))
      (d (.x1 obj0))
theorem roundslices_Concat_string_string_1 (K : PureK) (lslices_Concat_string_string_0 : Sslices_Concat_string_string_0 → Option Oslices_Concat_string_string_0) {β : Type} (r : Env → Heap → Option β) (k : Ex → Env → Heap → Option β) (s : Sslices_Concat_string_string_1) : tellOne (addLp X 34 3 (Fslices_Concat_string_string_0 lslices_Concat_string_string_0)) K 0 34 1 [(0, 1, 0), (1, 1, 0), (2, 1, 0), (3, 1, 0)] 1 clslices_Concat_string_string_1 closlices_Concat_string_string_1 r k (Eslices_Concat_string_string_1 s) (Hslices_Concat_string_string_1 s) = Rslices_Concat_string_string_1 K (Tslices_Concat_string_string_1 k) (fun s => r (Eslices_Concat_string_string_1 s) (Hslices_Concat_string_string_1 s)) s := by
  cases s <;> kernel_rfl
theorem Oslices_Concat_string_string_1.bind_k {β γ : Type} (o : Oslices_Concat_string_string_1) (c0 : (List AV) → Option β) (c1 : (List AV) → Option β) (φ : β → Option γ) : (Oslices_Concat_string_string_1.k o c0 c1).bind φ = Oslices_Concat_string_string_1.k o (fun obj0 => (c0 obj0).bind φ) (fun obj0 => (c1 obj0).bind φ) := by cases o <;> rfl
theorem natslices_Concat_string_string_1 (K : PureK) {β γ : Type} (φ : β → Option γ) (d : Oslices_Concat_string_string_1 → Option β) (r : Sslices_Concat_string_string_1 → Option β) (s : Sslices_Concat_string_string_1) : Rslices_Concat_string_string_1 K (fun o => (d o).bind φ) (fun s => (r s).bind φ) s = (Rslices_Concat_string_string_1 K d r s).bind φ := by
  cases s <;> simp only [Rslices_Concat_string_string_1, bind_optK, bind_br, bind_asInt, bind_asBool, bind_asStr, bind_asLst, bind_asAgg, bind_asTup, bind_asBig, bind_asErr, bind_none]
theorem outslices_Concat_string_string_1 (o : Oslices_Concat_string_string_1) : ∃ x e' h', ∀ {β : Type} (k : Ex → Env → Heap → Option β), Tslices_Concat_string_string_1 k o = k x e' h' := by cases o <;> exact ⟨_, _, _, fun _ => rfl⟩
theorem okslices_Concat_string_string_1 {K : PureK} (lslices_Concat_string_string_0 : Sslices_Concat_string_string_0 → Option Oslices_Concat_string_string_0) (hX : Sound (addLp X 34 3 (Fslices_Concat_string_string_0 lslices_Concat_string_string_0))) (hK : KOk X K) {lslices_Concat_string_string_1 : Sslices_Concat_string_string_1 → Option Oslices_Concat_string_string_1} (hl : ∀ s o, lslices_Concat_string_string_1 s = some o → ∃ m, fuelRec (Rslices_Concat_string_string_1 K some) m s = some o) (β : Type) (e : Env) (h : Heap) (k : Ex → Env → Heap → Option β) (r : β) (hr : (Fslices_Concat_string_string_1 lslices_Concat_string_string_1).run e h k = some r) : ∃ x e' h', k x e' h' = some r ∧ CodeAt (addLp X 34 3 (Fslices_Concat_string_string_0 lslices_Concat_string_string_0)) (.loop (loopBody ((addLp X 34 3 (Fslices_Concat_string_string_0 lslices_Concat_string_string_0))).P 34 1)) e h x e' h' := by
  obtain ⟨fn, c, hin⟩ := loopIn_of (X := (addLp X 34 3 (Fslices_Concat_string_string_0 lslices_Concat_string_string_0))) (f := 34) (i := 1) (key := 11) (by kernel_rfl)
  simp only [Fslices_Concat_string_string_1] at hr
  split at hr
  · rename_i hlen
    have hlen := Nat.eq_of_beq_eq_true hlen
    split at hr
    · rename_i q6 q25 q26 q27
      obtain ⟨o, ho, hr⟩ := optK_some hr
      refine tell_ok hX (KOk.congr (X := X) (Y := (addLp X 34 3 (Fslices_Concat_string_string_0 lslices_Concat_string_string_0))) rfl rfl hK) hin (E := Eslices_Concat_string_string_1) (H := Hslices_Concat_string_string_1) (R := fun d r => Rslices_Concat_string_string_1 K d r) (T := Tslices_Concat_string_string_1) (ts := [(0, 1, 0), (1, 1, 0), (2, 1, 0), (3, 1, 0)]) (len := 1) (cl := clslices_Concat_string_string_1) (clo := closlices_Concat_string_string_1) (roundslices_Concat_string_string_1 K lslices_Concat_string_string_0) (natslices_Concat_string_string_1 K) outslices_Concat_string_string_1 (hl _ _ ho) (cl0 := clslices_Concat_string_string_1) (ts0 := [(0, 1, 0)]) ?_ rfl (by kernel_rfl) (by kernel_rfl) hr
      rw [clear_lit e 36 hlen, show clearEnv clslices_Concat_string_string_1 ((List.range 36).map fun i => e.getD i .dead) = [.dead, .dead, .dead, .dead, .dead, .dead, e.getD 6 .dead, .dead, .dead, .dead, .dead, .dead, .dead, .dead, .dead, .dead, .dead, .dead, .dead, .dead, .dead, .dead, .dead, .dead, .dead, e.getD 25 .dead, e.getD 26 .dead, e.getD 27 .dead, .dead, .dead, .dead, .dead, .dead, .dead, .dead, .dead] from by kernel_rfl]; rw [q6, q25, q26, q27]
      kernel_rfl
    · cases hr
  · cases hr
inductive Sslices_Concat_string_string_1b where
  | s0 (t25n : Bool) (t25 : List AV) (t26 : Int) (t27 : Int)
  | s1 (t25n : Bool) (t25 : List AV) (t26 : Int) (t27 : Int) (obj0 : List AV)

inductive Oslices_Concat_string_string_1b where
  | x0
  | x1 (obj0 : List AV)

def Oslices_Concat_string_string_1b.k {β : Type} (o : Oslices_Concat_string_string_1b) (c0 : Option β) (c1 : (List AV) → Option β) : Option β := match o with
  | .x0 => c0
  | .x1 obj0 => c1 obj0

def Eslices_Concat_string_string_1b : Sslices_Concat_string_string_1b → Env
  | .s0 t25n t25 t26 t27 => [.dead, .dead, .dead, .dead, .dead, .dead, (.lst 1 true []), .dead, .dead, .dead, .dead, .dead, .dead, .dead, .dead, .dead, .dead, .dead, .dead, .dead, .dead, .dead, .dead, .dead, .dead, (.lst 1 t25n t25), (.v (.int .i64 t26)), (.v (.int .i64 t27)), .dead, .dead, .dead, .dead, .dead, .dead, .dead, .dead]
  | .s1 t25n t25 t26 t27 obj0 => [.dead, .dead, .dead, .dead, .dead, .dead, (.own 0 1 0 none), .dead, .dead, .dead, .dead, .dead, .dead, .dead, .dead, .dead, .dead, .dead, .dead, .dead, .dead, .dead, .dead, .dead, .dead, (.lst 1 t25n t25), (.v (.int .i64 t26)), (.v (.int .i64 t27)), .dead, .dead, .dead, .dead, .dead, .dead, .dead, .dead]

def Hslices_Concat_string_string_1b : Sslices_Concat_string_string_1b → Heap
  | .s0 t25n t25 t26 t27 => []
  | .s1 t25n t25 t26 t27 obj0 => [⟨obj0, 1, 0, true, false, 9, 1, none⟩]

def Tslices_Concat_string_string_1b {β : Type} (k : Ex → Env → Heap → Option β) (o : Oslices_Concat_string_string_1b) : Option β := Oslices_Concat_string_string_1b.k o (k (.exit 2) [.dead, .dead, .dead, .dead, .dead, .dead, (.lst 1 true []), .dead, .dead, .dead, .dead, .dead, .dead, .dead, .dead, .dead, .dead, .dead, .dead, .dead, .dead, .dead, .dead, .dead, .dead, .dead, .dead, .dead, .dead, .dead, .dead, .dead, .dead, .dead, .dead, .dead] []) (fun obj0 => k (.exit 2) [.dead, .dead, .dead, .dead, .dead, .dead, (.own 0 1 0 none), .dead, .dead, .dead, .dead, .dead, .dead, .dead, .dead, .dead, .dead, .dead, .dead, .dead, .dead, .dead, .dead, .dead, .dead, .dead, .dead, .dead, .dead, .dead, .dead, .dead, .dead, .dead, .dead, .dead] [⟨obj0, 1, 0, true, false, 9, 1, none⟩])

def Fslices_Concat_string_string_1b (lslices_Concat_string_string_1 : Sslices_Concat_string_string_1 → Option Oslices_Concat_string_string_1) (lslices_Concat_string_string_1b : Sslices_Concat_string_string_1b → Option Oslices_Concat_string_string_1b) : LoopF := ⟨fun e h k => match Nat.beq e.length 36 with
  | true => (match e.getD 6 .dead, e.getD 25 .dead, e.getD 26 .dead, e.getD 27 .dead, h with
    | (.lst 1 true []), (.lst 1 t25n t25), (.v (.int .i64 t26)), (.v (.int .i64 t27)), [] => optK (lslices_Concat_string_string_1b (.s0 t25n t25 t26 t27)) (Tslices_Concat_string_string_1b k)
    | _, _, _, _, _ => (Fslices_Concat_string_string_1 lslices_Concat_string_string_1).run e h k)
  | false => (Fslices_Concat_string_string_1 lslices_Concat_string_string_1).run e h k⟩

def clslices_Concat_string_string_1b : List Tmp := [0, 1, 2, 3, 4, 5, 7, 8, 9, 10, 11, 12, 13, 14, 15, 16, 17, 18, 19, 20, 21, 22, 23, 24, 28, 29, 30, 31, 32, 33, 34, 35]
def closlices_Concat_string_string_1b : List Tmp := [0, 1, 2, 3, 4, 5, 7, 8, 9, 10, 11, 12, 13, 14, 15, 16, 17, 18, 19, 20, 21, 22, 23, 24, 25, 26, 27, 28, 29, 30, 31, 32, 33, 34, 35]

noncomputable def Rslices_Concat_string_string_1b {β : Type} (K : PureK) (d : Oslices_Concat_string_string_1b → Option β) (r : Sslices_Concat_string_string_1b → Option β) : Sslices_Concat_string_string_1b → Option β
  | .s0 t25n t25 t26 t27 =>
    br (decide (t27 < t26))
      (br (decide (0 ≤ t27))
        (br (decide (t27 < ((t25.length : Nat) : Int)))
          (optK t25[t27.toNat]? fun wv1 =>
          Ab.asLst wv1 1 fun wb2 wr2 =>
          br wr2.isEmpty
            (r (.s0 t25n t25 t26 (w64 (t27 + 1))))
            (br (lenOk wr2.length 16 && lenOk wr2.length 1)
              (r (.s1 t25n t25 t26 (w64 (t27 + 1)) wr2))
              (none)))
          (none))
        (none))
      (d (.x0))
  | .s1 t25n t25 t26 t27 obj0 =>
    br (decide (t27 < t26))
      (br (decide (0 ≤ t27))
        (br (decide (t27 < ((t25.length : Nat) : Int)))
          (optK t25[t27.toNat]? fun wv3 =>
          Ab.asLst wv3 1 fun wb4 wr4 =>
          br (lenOk (obj0.length + wr4.length) 16 && lenOk (obj0.length + wr4.length) 1)
            (r (.s1 t25n t25 t26 (w64 (t27 + 1)) (obj0 ++ wr4)))
            (none))
          (none))
        (none))
      (d (.x1 obj0))
theorem roundslices_Concat_string_string_1b (K : PureK) (lslices_Concat_string_string_0 : Sslices_Concat_string_string_0 → Option Oslices_Concat_string_string_0) (lslices_Concat_string_string_1 : Sslices_Concat_string_string_1 → Option Oslices_Concat_string_string_1) {β : Type} (r : Env → Heap → Option β) (k : Ex → Env → Heap → Option β) (s : Sslices_Concat_string_string_1b) : tellOne (addLp (addLp X 34 3 (Fslices_Concat_string_string_0 lslices_Concat_string_string_0)) 34 11 (Fslices_Concat_string_string_1 lslices_Concat_string_string_1)) K 0 34 1 [(0, 1, 0), (1, 1, 0), (2, 1, 0)] 0 clslices_Concat_string_string_1b closlices_Concat_string_string_1b r k (Eslices_Concat_string_string_1b s) (Hslices_Concat_string_string_1b s) = Rslices_Concat_string_string_1b K (Tslices_Concat_string_string_1b k) (fun s => r (Eslices_Concat_string_string_1b s) (Hslices_Concat_string_string_1b s)) s := by
  cases s <;> kernel_rfl
theorem Oslices_Concat_string_string_1b.bind_k {β γ : Type} (o : Oslices_Concat_string_string_1b) (c0 : Option β) (c1 : (List AV) → Option β) (φ : β → Option γ) : (Oslices_Concat_string_string_1b.k o c0 c1).bind φ = Oslices_Concat_string_string_1b.k o (c0.bind φ) (fun obj0 => (c1 obj0).bind φ) := by cases o <;> rfl
theorem natslices_Concat_string_string_1b (K : PureK) {β γ : Type} (φ : β → Option γ) (d : Oslices_Concat_string_string_1b → Option β) (r : Sslices_Concat_string_string_1b → Option β) (s : Sslices_Concat_string_string_1b) : Rslices_Concat_string_string_1b K (fun o => (d o).bind φ) (fun s => (r s).bind φ) s = (Rslices_Concat_string_string_1b K d r s).bind φ := by
  cases s <;> simp only [Rslices_Concat_string_string_1b, bind_optK, bind_br, bind_asInt, bind_asBool, bind_asStr, bind_asLst, bind_asAgg, bind_asTup, bind_asBig, bind_asErr, bind_none]
theorem outslices_Concat_string_string_1b (o : Oslices_Concat_string_string_1b) : ∃ x e' h', ∀ {β : Type} (k : Ex → Env → Heap → Option β), Tslices_Concat_string_string_1b k o = k x e' h' := by cases o <;> exact ⟨_, _, _, fun _ => rfl⟩
theorem okslices_Concat_string_string_1b {K : PureK} (lslices_Concat_string_string_0 : Sslices_Concat_string_string_0 → Option Oslices_Concat_string_string_0) (lslices_Concat_string_string_1 : Sslices_Concat_string_string_1 → Option Oslices_Concat_string_string_1) (hX : Sound (addLp (addLp X 34 3 (Fslices_Concat_string_string_0 lslices_Concat_string_string_0)) 34 11 (Fslices_Concat_string_string_1 lslices_Concat_string_string_1))) (hK : KOk X K) {lslices_Concat_string_string_1b : Sslices_Concat_string_string_1b → Option Oslices_Concat_string_string_1b} (hl : ∀ s o, lslices_Concat_string_string_1b s = some o → ∃ m, fuelRec (Rslices_Concat_string_string_1b K some) m s = some o) (β : Type) (e : Env) (h : Heap) (k : Ex → Env → Heap → Option β) (r : β) (hr : (Fslices_Concat_string_string_1b lslices_Concat_string_string_1 lslices_Concat_string_string_1b).run e h k = some r) : ∃ x e' h', k x e' h' = some r ∧ CodeAt (addLp (addLp X 34 3 (Fslices_Concat_string_string_0 lslices_Concat_string_string_0)) 34 11 (Fslices_Concat_string_string_1 lslices_Concat_string_string_1)) (.loop (loopBody ((addLp (addLp X 34 3 (Fslices_Concat_string_string_0 lslices_Concat_string_string_0)) 34 11 (Fslices_Concat_string_string_1 lslices_Concat_string_string_1))).P 34 1)) e h x e' h' := by
  obtain ⟨fn, c, hin⟩ := loopIn_of (X := (addLp (addLp X 34 3 (Fslices_Concat_string_string_0 lslices_Concat_string_string_0)) 34 11 (Fslices_Concat_string_string_1 lslices_Concat_string_string_1))) (f := 34) (i := 1) (key := 11) (by kernel_rfl)
  simp only [Fslices_Concat_string_string_1b] at hr
  split at hr
  · rename_i hlen
    have hlen := Nat.eq_of_beq_eq_true hlen
    split at hr
    · rename_i q6 q25 q26 q27
      obtain ⟨o, ho, hr⟩ := optK_some hr
      refine tell_ok hX (KOk.congr (X := X) (Y := (addLp (addLp X 34 3 (Fslices_Concat_string_string_0 lslices_Concat_string_string_0)) 34 11 (Fslices_Concat_string_string_1 lslices_Concat_string_string_1))) rfl rfl hK) hin (E := Eslices_Concat_string_string_1b) (H := Hslices_Concat_string_string_1b) (R := fun d r => Rslices_Concat_string_string_1b K d r) (T := Tslices_Concat_string_string_1b) (ts := [(0, 1, 0), (1, 1, 0), (2, 1, 0)]) (len := 0) (cl := clslices_Concat_string_string_1b) (clo := closlices_Concat_string_string_1b) (roundslices_Concat_string_string_1b K lslices_Concat_string_string_0 lslices_Concat_string_string_1) (natslices_Concat_string_string_1b K) outslices_Concat_string_string_1b (hl _ _ ho) (cl0 := clslices_Concat_string_string_1b) (ts0 := []) ?_ rfl (by kernel_rfl) (by kernel_rfl) hr
      rw [clear_lit e 36 hlen, show clearEnv clslices_Concat_string_string_1b ((List.range 36).map fun i => e.getD i .dead) = [.dead, .dead, .dead, .dead, .dead, .dead, e.getD 6 .dead, .dead, .dead, .dead, .dead, .dead, .dead, .dead, .dead, .dead, .dead, .dead, .dead, .dead, .dead, .dead, .dead, .dead, .dead, e.getD 25 .dead, e.getD 26 .dead, e.getD 27 .dead, .dead, .dead, .dead, .dead, .dead, .dead, .dead, .dead] from by kernel_rfl]; rw [q6, q25, q26, q27]
      kernel_rfl
    · exact hX.lp 34 fn c hin.hok hin.hfn hin.hbody _ (List.mem_of_getElem? hin.code) (Fslices_Concat_string_string_1 lslices_Concat_string_string_1) (by kernel_rfl) β _ _ k r hr
  · exact hX.lp 34 fn c hin.hok hin.hfn hin.hbody _ (List.mem_of_getElem? hin.code) (Fslices_Concat_string_string_1 lslices_Concat_string_string_1) (by kernel_rfl) β _ _ k r hr
noncomputable def Rslices_Concat_string_string (K : PureK) (lslices_Concat_string_string_0 : Sslices_Concat_string_string_0 → Option Oslices_Concat_string_string_0) (lslices_Concat_string_string_1 : Sslices_Concat_string_string_1 → Option Oslices_Concat_string_string_1) (lslices_Concat_string_string_1b : Sslices_Concat_string_string_1b → Option Oslices_Concat_string_string_1b) (slices0n : Bool) (slices0 : List AV) : Option AV :=
  optK (lslices_Concat_string_string_0 (Sslices_Concat_string_string_0.s0 slices0n slices0 0 slices0n slices0 (((slices0.length : Nat) : Int)) 0)) fun wo8 => Oslices_Concat_string_string_0.k wo8 (fun (slices0n_9 : Bool) (slices0_9 : List AV) (size3_9 : Int) =>
    br (decide (size3_9 < 0))
      (none)
      (br (decide (w64 (size3_9 - 0) > 0))
        (br (decide (0 < w64 (size3_9 - 0)))
          (br (lenOk (w64 (size3_9 - 0)).toNat 16 && lenOk (w64 (size3_9 - 0)).toNat 1)
            (optK (lslices_Concat_string_string_1 (Sslices_Concat_string_string_1.s0 slices0n_9 slices0_9 (((slices0_9.length : Nat) : Int)) 0 (List.replicate (w64 (size3_9 - 0)).toNat (sv ({ data := #[] } : ByteArray))))) fun wo10 => Oslices_Concat_string_string_1.k wo10
              (fun (obj0_11 : List AV) => some (AV.lst 1 false []))
              (fun (obj0_12 : List AV) => some (AV.lst 1 false obj0_12)))
            (none))
          (none))
        (optK (lslices_Concat_string_string_1b (Sslices_Concat_string_string_1b.s0 slices0n_9 slices0_9 (((slices0_9.length : Nat) : Int)) 0)) fun wo13 => Oslices_Concat_string_string_1b.k wo13
          (some (AV.lst 1 true []))
          (fun (obj0_15 : List AV) => some (AV.lst 1 false obj0_15)))))
theorem topslices_Concat_string_string (K : PureK) (lslices_Concat_string_string_0 : Sslices_Concat_string_string_0 → Option Oslices_Concat_string_string_0) (lslices_Concat_string_string_1 : Sslices_Concat_string_string_1 → Option Oslices_Concat_string_string_1) (lslices_Concat_string_string_1b : Sslices_Concat_string_string_1b → Option Oslices_Concat_string_string_1b) (slices0n : Bool) (slices0 : List AV) : topK (addLp (addLp (addLp X 34 3 (Fslices_Concat_string_string_0 lslices_Concat_string_string_0)) 34 11 (Fslices_Concat_string_string_1 lslices_Concat_string_string_1)) 34 11 (Fslices_Concat_string_string_1b lslices_Concat_string_string_1 lslices_Concat_string_string_1b)) K 0 f_slices_Concat_string_string [(.lst 1 slices0n slices0)] = Rslices_Concat_string_string K lslices_Concat_string_string_0 lslices_Concat_string_string_1 lslices_Concat_string_string_1b slices0n slices0 := by kernel_rfl
theorem pcslices_Concat_string_string {K : PureK} (hK : KOk X K) {lslices_Concat_string_string_0 : Sslices_Concat_string_string_0 → Option Oslices_Concat_string_string_0} {lslices_Concat_string_string_1 : Sslices_Concat_string_string_1 → Option Oslices_Concat_string_string_1} {lslices_Concat_string_string_1b : Sslices_Concat_string_string_1b → Option Oslices_Concat_string_string_1b} (hslices_Concat_string_string_0 : ∀ s o, lslices_Concat_string_string_0 s = some o → ∃ m, fuelRec (Rslices_Concat_string_string_0 K some) m s = some o) (hslices_Concat_string_string_1 : ∀ s o, lslices_Concat_string_string_1 s = some o → ∃ m, fuelRec (Rslices_Concat_string_string_1 K some) m s = some o) (hslices_Concat_string_string_1b : ∀ s o, lslices_Concat_string_string_1b s = some o → ∃ m, fuelRec (Rslices_Concat_string_string_1b K some) m s = some o) {slices0n : Bool} {slices0 : List AV} {v : AV} (h : Rslices_Concat_string_string K lslices_Concat_string_string_0 lslices_Concat_string_string_1 lslices_Concat_string_string_1b slices0n slices0 = some v) : PureCall X f_slices_Concat_string_string [(.lst 1 slices0n slices0)] v := by
  have hSo0 := soundX
  obtain ⟨_, _, hin0⟩ := loopIn_of (X := X) (f := 34) (i := 0) (key := 3) (by kernel_rfl)
  have hSo1 := sound_add hSo0 hin0 (okslices_Concat_string_string_0 hSo0 hK hslices_Concat_string_string_0)
  obtain ⟨_, _, hin1⟩ := loopIn_of (X := (addLp X 34 3 (Fslices_Concat_string_string_0 lslices_Concat_string_string_0))) (f := 34) (i := 1) (key := 11) (by kernel_rfl)
  have hSo2 := sound_add hSo1 hin1 (okslices_Concat_string_string_1 lslices_Concat_string_string_0 hSo1 hK hslices_Concat_string_string_1)
  obtain ⟨_, _, hin2⟩ := loopIn_of (X := (addLp (addLp X 34 3 (Fslices_Concat_string_string_0 lslices_Concat_string_string_0)) 34 11 (Fslices_Concat_string_string_1 lslices_Concat_string_string_1))) (f := 34) (i := 1) (key := 11) (by kernel_rfl)
  have hSo3 := sound_add hSo2 hin2 (okslices_Concat_string_string_1b lslices_Concat_string_string_0 lslices_Concat_string_string_1 hSo2 hK hslices_Concat_string_string_1b)
  exact tell_top (X := X) (Y := (addLp (addLp (addLp X 34 3 (Fslices_Concat_string_string_0 lslices_Concat_string_string_0)) 34 11 (Fslices_Concat_string_string_1 lslices_Concat_string_string_1)) 34 11 (Fslices_Concat_string_string_1b lslices_Concat_string_string_1 lslices_Concat_string_string_1b))) rfl rfl hSo3 hK ((topslices_Concat_string_string K lslices_Concat_string_string_0 lslices_Concat_string_string_1 lslices_Concat_string_string_1b slices0n slices0).trans h)

/-! 42: strings.CutSuffix -/
noncomputable def Rstrings_CutSuffix (K : PureK) (s0 : ByteArray) (suffix1 : ByteArray) : Option AV :=
  optK (K f_i_stringslite_CutSuffix [sv s0, sv suffix1]) fun wv1 =>
    Ab.asTup wv1 2 fun wg2 =>
    Ab.asStr (wg2 0) fun ws3 =>
    Ab.asBool (wg2 1) fun wb4 =>
    some (AV.tup [sv ws3, bv wb4])
theorem topstrings_CutSuffix (K : PureK) (s0 : ByteArray) (suffix1 : ByteArray) : topK X K 0 f_strings_CutSuffix [(.v (.string s0)), (.v (.string suffix1))] = Rstrings_CutSuffix K s0 suffix1 := by kernel_rfl
theorem pcstrings_CutSuffix {K : PureK} (hK : KOk X K) {s0 : ByteArray} {suffix1 : ByteArray} {v : AV} (h : Rstrings_CutSuffix K s0 suffix1 = some v) : PureCall X f_strings_CutSuffix [(.v (.string s0)), (.v (.string suffix1))] v := by
  have hSo0 := soundX
  exact tell_top (X := X) (Y := X) rfl rfl hSo0 hK ((topstrings_CutSuffix K s0 suffix1).trans h)

/-! 46: internal/stringslite.HasSuffix -/
noncomputable def Ri_stringslite_HasSuffix (K : PureK) (s0 : ByteArray) (suffix1 : ByteArray) : Option AV :=
  optK (br (decide (((s0.size : Nat) : Int) ≥ ((suffix1.size : Nat) : Int)))
        (br (decide (0 ≤ w64 (((s0.size : Nat) : Int) - ((suffix1.size : Nat) : Int))))
          (br (decide (w64 (((s0.size : Nat) : Int) - ((suffix1.size : Nat) : Int)) ≤ ((s0.size : Nat) : Int)))
            (some (bv (strEq (cutStr s0 (some (w64 (((s0.size : Nat) : Int) - ((suffix1.size : Nat) : Int)))) none) suffix1)))
            (none))
          (none))
        (some (bv false))) fun wv1 =>
    Ab.asBool wv1 fun wb2 =>
    some (bv wb2)
theorem topi_stringslite_HasSuffix (K : PureK) (s0 : ByteArray) (suffix1 : ByteArray) : topK X K 0 f_i_stringslite_HasSuffix [(.v (.string s0)), (.v (.string suffix1))] = Ri_stringslite_HasSuffix K s0 suffix1 := by kernel_rfl
theorem pci_stringslite_HasSuffix {K : PureK} (hK : KOk X K) {s0 : ByteArray} {suffix1 : ByteArray} {v : AV} (h : Ri_stringslite_HasSuffix K s0 suffix1 = some v) : PureCall X f_i_stringslite_HasSuffix [(.v (.string s0)), (.v (.string suffix1))] v := by
  have hSo0 := soundX
  exact tell_top (X := X) (Y := X) rfl rfl hSo0 hK ((topi_stringslite_HasSuffix K s0 suffix1).trans h)

/-! 51: internal/stringslite.CutSuffix -/
noncomputable def Ri_stringslite_CutSuffix (K : PureK) (s0 : ByteArray) (suffix1 : ByteArray) : Option AV :=
  optK (K f_i_stringslite_HasSuffix [sv s0, sv suffix1]) fun wv1 =>
    Ab.asBool wv1 fun wb2 =>
    br (!wb2)
      (some (AV.tup [sv s0, bv false]))
      (br (decide (0 ≤ w64 (((s0.size : Nat) : Int) - ((suffix1.size : Nat) : Int))))
        (br (decide (w64 (((s0.size : Nat) : Int) - ((suffix1.size : Nat) : Int)) ≤ ((s0.size : Nat) : Int)))
          (some (AV.tup [sv (cutStr s0 none (some (w64 (((s0.size : Nat) : Int) - ((suffix1.size : Nat) : Int))))), bv true]))
          (none))
        (none))
theorem topi_stringslite_CutSuffix (K : PureK) (s0 : ByteArray) (suffix1 : ByteArray) : topK X K 0 f_i_stringslite_CutSuffix [(.v (.string s0)), (.v (.string suffix1))] = Ri_stringslite_CutSuffix K s0 suffix1 := by kernel_rfl
theorem pci_stringslite_CutSuffix {K : PureK} (hK : KOk X K) {s0 : ByteArray} {suffix1 : ByteArray} {v : AV} (h : Ri_stringslite_CutSuffix K s0 suffix1 = some v) : PureCall X f_i_stringslite_CutSuffix [(.v (.string s0)), (.v (.string suffix1))] v := by
  have hSo0 := soundX
  exact tell_top (X := X) (Y := X) rfl rfl hSo0 hK ((topi_stringslite_CutSuffix K s0 suffix1).trans h)

/-! 43: strings.LastIndexByte -/
noncomputable def Rstrings_LastIndexByte (K : PureK) (s0 : ByteArray) (c1 : Int) : Option AV :=
  optK (K f_i_bytealg_LastIndexByteString [sv s0, uv c1]) fun wv1 =>
    Ab.asInt wv1 .i64 fun wn2 =>
    some (iv wn2)
theorem topstrings_LastIndexByte (K : PureK) (s0 : ByteArray) (c1 : Int) : topK X K 0 f_strings_LastIndexByte [(.v (.string s0)), (.v (.int .u8 c1))] = Rstrings_LastIndexByte K s0 c1 := by kernel_rfl
theorem pcstrings_LastIndexByte {K : PureK} (hK : KOk X K) {s0 : ByteArray} {c1 : Int} {v : AV} (h : Rstrings_LastIndexByte K s0 c1 = some v) : PureCall X f_strings_LastIndexByte [(.v (.string s0)), (.v (.int .u8 c1))] v := by
  have hSo0 := soundX
  exact tell_top (X := X) (Y := X) rfl rfl hSo0 hK ((topstrings_LastIndexByte K s0 c1).trans h)

/-! 52: internal/bytealg.LastIndexByteString -/
inductive Si_bytealg_LastIndexByteString_0 where
  | s0 (s0 : ByteArray) (c1 : Int) (i5 : Int)

inductive Oi_bytealg_LastIndexByteString_0 where
  | x0 (t4 : Int)
  | x1

def Oi_bytealg_LastIndexByteString_0.k {β : Type} (o : Oi_bytealg_LastIndexByteString_0) (c0 : Int → Option β) (c1 : Option β) : Option β := match o with
  | .x0 t4 => c0 t4
  | .x1 => c1

def Ei_bytealg_LastIndexByteString_0 : Si_bytealg_LastIndexByteString_0 → Env
  | .s0 s0 c1 i5 => [(.v (.string s0)), (.v (.int .u8 c1)), .dead, .dead, .dead, (.v (.int .i64 i5)), .dead, .dead, .dead, .dead, .dead, .dead, .dead, .dead, .dead, .dead, .dead, .dead, .dead]

def Hi_bytealg_LastIndexByteString_0 : Si_bytealg_LastIndexByteString_0 → Heap
  | .s0 s0 c1 i5 => []

def Ti_bytealg_LastIndexByteString_0 {β : Type} (k : Ex → Env → Heap → Option β) (o : Oi_bytealg_LastIndexByteString_0) : Option β := Oi_bytealg_LastIndexByteString_0.k o (fun t4 => k .ret [.dead, .dead, .dead, .dead, (.v (.int .i64 t4)), .dead, .dead, .dead, .dead, .dead, .dead, .dead, .dead, .dead, .dead, .dead, .dead, .dead, .dead] []) (k (.exit 0) [.dead, .dead, .dead, .dead, .dead, .dead, .dead, .dead, .dead, .dead, .dead, .dead, .dead, .dead, .dead, .dead, .dead, .dead, .dead] [])

def Fi_bytealg_LastIndexByteString_0 (li_bytealg_LastIndexByteString_0 : Si_bytealg_LastIndexByteString_0 → Option Oi_bytealg_LastIndexByteString_0) : LoopF := ⟨fun e h k => match Nat.beq e.length 19 with
  | true => (match e.getD 0 .dead, e.getD 1 .dead, e.getD 5 .dead, h with
    | (.v (.string s0)), (.v (.int .u8 c1)), (.v (.int .i64 i5)), [] => optK (li_bytealg_LastIndexByteString_0 (.s0 s0 c1 i5)) (Ti_bytealg_LastIndexByteString_0 k)
    | _, _, _, _ => none)
  | false => none⟩

def cli_bytealg_LastIndexByteString_0 : List Tmp := [2, 3, 4, 6, 7, 8, 9, 10, 11, 12, 13, 14, 15, 16, 17, 18]
def cloi_bytealg_LastIndexByteString_0 : List Tmp := [0, 1, 2, 3, 5, 6, 7, 8, 9, 10, 11, 12, 13, 14, 15, 16, 17, 18]

noncomputable def Ri_bytealg_LastIndexByteString_0 {β : Type} (K : PureK) (d : Oi_bytealg_LastIndexByteString_0 → Option β) (r : Si_bytealg_LastIndexByteString_0 → Option β) : Si_bytealg_LastIndexByteString_0 → Option β
  | .s0 s0 c1 i5 =>
    br (decide (i5 ≥ 0))
      (br (decide (0 ≤ i5))
        (br (decide (i5 < ((s0.size : Nat) : Int)))
          (br (bt s0 i5.toNat == c1)
            (d (.x0 i5))
            (r (.s0 s0 c1 (w64 (i5 - 1)))))
          (none))
        (none))
      (d (.x1))
theorem roundi_bytealg_LastIndexByteString_0 (K : PureK) {β : Type} (r : Env → Heap → Option β) (k : Ex → Env → Heap → Option β) (s : Si_bytealg_LastIndexByteString_0) : tellOne X K 0 52 0 [(0, 1, 0), (1, 1, 0), (2, 1, 0)] 0 cli_bytealg_LastIndexByteString_0 cloi_bytealg_LastIndexByteString_0 r k (Ei_bytealg_LastIndexByteString_0 s) (Hi_bytealg_LastIndexByteString_0 s) = Ri_bytealg_LastIndexByteString_0 K (Ti_bytealg_LastIndexByteString_0 k) (fun s => r (Ei_bytealg_LastIndexByteString_0 s) (Hi_bytealg_LastIndexByteString_0 s)) s := by
  cases s <;> kernel_rfl
theorem Oi_bytealg_LastIndexByteString_0.bind_k {β γ : Type} (o : Oi_bytealg_LastIndexByteString_0) (c0 : Int → Option β) (c1 : Option β) (φ : β → Option γ) : (Oi_bytealg_LastIndexByteString_0.k o c0 c1).bind φ = Oi_bytealg_LastIndexByteString_0.k o (fun t4 => (c0 t4).bind φ) (c1.bind φ) := by cases o <;> rfl
theorem nati_bytealg_LastIndexByteString_0 (K : PureK) {β γ : Type} (φ : β → Option γ) (d : Oi_bytealg_LastIndexByteString_0 → Option β) (r : Si_bytealg_LastIndexByteString_0 → Option β) (s : Si_bytealg_LastIndexByteString_0) : Ri_bytealg_LastIndexByteString_0 K (fun o => (d o).bind φ) (fun s => (r s).bind φ) s = (Ri_bytealg_LastIndexByteString_0 K d r s).bind φ := by
  cases s <;> simp only [Ri_bytealg_LastIndexByteString_0, bind_optK, bind_br, bind_asInt, bind_asBool, bind_asStr, bind_asLst, bind_asAgg, bind_asTup, bind_asBig, bind_asErr, bind_none]
theorem outi_bytealg_LastIndexByteString_0 (o : Oi_bytealg_LastIndexByteString_0) : ∃ x e' h', ∀ {β : Type} (k : Ex → Env → Heap → Option β), Ti_bytealg_LastIndexByteString_0 k o = k x e' h' := by cases o <;> exact ⟨_, _, _, fun _ => rfl⟩
theorem oki_bytealg_LastIndexByteString_0 {K : PureK} (hX : Sound X) (hK : KOk X K) {li_bytealg_LastIndexByteString_0 : Si_bytealg_LastIndexByteString_0 → Option Oi_bytealg_LastIndexByteString_0} (hl : ∀ s o, li_bytealg_LastIndexByteString_0 s = some o → ∃ m, fuelRec (Ri_bytealg_LastIndexByteString_0 K some) m s = some o) (β : Type) (e : Env) (h : Heap) (k : Ex → Env → Heap → Option β) (r : β) (hr : (Fi_bytealg_LastIndexByteString_0 li_bytealg_LastIndexByteString_0).run e h k = some r) : ∃ x e' h', k x e' h' = some r ∧ CodeAt X (.loop (loopBody (X).P 52 0)) e h x e' h' := by
  obtain ⟨fn, c, hin⟩ := loopIn_of (X := X) (f := 52) (i := 0) (key := 2) (by kernel_rfl)
  simp only [Fi_bytealg_LastIndexByteString_0] at hr
  split at hr
  · rename_i hlen
    have hlen := Nat.eq_of_beq_eq_true hlen
    split at hr
    · rename_i q0 q1 q5
      obtain ⟨o, ho, hr⟩ := optK_some hr
      refine tell_ok hX (KOk.congr (X := X) (Y := X) rfl rfl hK) hin (E := Ei_bytealg_LastIndexByteString_0) (H := Hi_bytealg_LastIndexByteString_0) (R := fun d r => Ri_bytealg_LastIndexByteString_0 K d r) (T := Ti_bytealg_LastIndexByteString_0) (ts := [(0, 1, 0), (1, 1, 0), (2, 1, 0)]) (len := 0) (cl := cli_bytealg_LastIndexByteString_0) (clo := cloi_bytealg_LastIndexByteString_0) (roundi_bytealg_LastIndexByteString_0 K) (nati_bytealg_LastIndexByteString_0 K) outi_bytealg_LastIndexByteString_0 (hl _ _ ho) (cl0 := cli_bytealg_LastIndexByteString_0) (ts0 := []) ?_ rfl (by kernel_rfl) (by kernel_rfl) hr
      rw [clear_lit e 19 hlen, show clearEnv cli_bytealg_LastIndexByteString_0 ((List.range 19).map fun i => e.getD i .dead) = [e.getD 0 .dead, e.getD 1 .dead, .dead, .dead, .dead, e.getD 5 .dead, .dead, .dead, .dead, .dead, .dead, .dead, .dead, .dead, .dead, .dead, .dead, .dead, .dead] from by kernel_rfl]; rw [q0, q1, q5]
      kernel_rfl
    · cases hr
  · cases hr
noncomputable def Ri_bytealg_LastIndexByteString (K : PureK) (li_bytealg_LastIndexByteString_0 : Si_bytealg_LastIndexByteString_0 → Option Oi_bytealg_LastIndexByteString_0) (s0 : ByteArray) (c1 : Int) : Option AV :=
  optK (li_bytealg_LastIndexByteString_0 (Si_bytealg_LastIndexByteString_0.s0 s0 c1 (w64 (((s0.size : Nat) : Int) - 1)))) fun wo1 => Oi_bytealg_LastIndexByteString_0.k wo1
      (fun (t4_2 : Int) => some (iv t4_2))
      (some (iv (-1)))
theorem topi_bytealg_LastIndexByteString (K : PureK) (li_bytealg_LastIndexByteString_0 : Si_bytealg_LastIndexByteString_0 → Option Oi_bytealg_LastIndexByteString_0) (s0 : ByteArray) (c1 : Int) : topK (addLp X 52 2 (Fi_bytealg_LastIndexByteString_0 li_bytealg_LastIndexByteString_0)) K 0 f_i_bytealg_LastIndexByteString [(.v (.string s0)), (.v (.int .u8 c1))] = Ri_bytealg_LastIndexByteString K li_bytealg_LastIndexByteString_0 s0 c1 := by kernel_rfl
theorem pci_bytealg_LastIndexByteString {K : PureK} (hK : KOk X K) {li_bytealg_LastIndexByteString_0 : Si_bytealg_LastIndexByteString_0 → Option Oi_bytealg_LastIndexByteString_0} (hi_bytealg_LastIndexByteString_0 : ∀ s o, li_bytealg_LastIndexByteString_0 s = some o → ∃ m, fuelRec (Ri_bytealg_LastIndexByteString_0 K some) m s = some o) {s0 : ByteArray} {c1 : Int} {v : AV} (h : Ri_bytealg_LastIndexByteString K li_bytealg_LastIndexByteString_0 s0 c1 = some v) : PureCall X f_i_bytealg_LastIndexByteString [(.v (.string s0)), (.v (.int .u8 c1))] v := by
  have hSo0 := soundX
  obtain ⟨_, _, hin0⟩ := loopIn_of (X := X) (f := 52) (i := 0) (key := 2) (by kernel_rfl)
  have hSo1 := sound_add hSo0 hin0 (oki_bytealg_LastIndexByteString_0 hSo0 hK hi_bytealg_LastIndexByteString_0)
  exact tell_top (X := X) (Y := (addLp X 52 2 (Fi_bytealg_LastIndexByteString_0 li_bytealg_LastIndexByteString_0))) rfl rfl hSo1 hK ((topi_bytealg_LastIndexByteString K li_bytealg_LastIndexByteString_0 s0 c1).trans h)

/-! 44: strings.Trim -/
inductive Sstrings_Trim_strings_trimRightASCII_0 where
  | s0 (s0 : ByteArray) (obj0_0 : List AV)

inductive Ostrings_Trim_strings_trimRightASCII_0 where
  | x0 (s0 : ByteArray) (obj0_0 : List AV)

def Ostrings_Trim_strings_trimRightASCII_0.k {β : Type} (o : Ostrings_Trim_strings_trimRightASCII_0) (c0 : ByteArray → (List AV) → Option β) : Option β := match o with
  | .x0 s0 obj0_0 => c0 s0 obj0_0

def Estrings_Trim_strings_trimRightASCII_0 : Sstrings_Trim_strings_trimRightASCII_0 → Env
  | .s0 s0 obj0_0 => [(.v (.string s0)), (.ptr 0 0 0 0), .dead, .dead, .dead, .dead, .dead, .dead, .dead, .dead, .dead, .dead, .dead, .dead, .dead, .dead, .dead, .dead, .dead, .dead, .dead, .dead]

def Hstrings_Trim_strings_trimRightASCII_0 : Sstrings_Trim_strings_trimRightASCII_0 → Heap
  | .s0 s0 obj0_0 => [⟨[(.agg obj0_0)], 0, 0, true, true, 80, 256, none⟩]

def Tstrings_Trim_strings_trimRightASCII_0 {β : Type} (k : Ex → Env → Heap → Option β) (o : Ostrings_Trim_strings_trimRightASCII_0) : Option β := Ostrings_Trim_strings_trimRightASCII_0.k o (fun s0 obj0_0 => k (.exit 0) [(.v (.string s0)), .dead, .dead, .dead, .dead, .dead, .dead, .dead, .dead, .dead, .dead, .dead, .dead, .dead, .dead, .dead, .dead, .dead, .dead, .dead, .dead, .dead] [⟨[(.agg obj0_0)], 0, 0, true, true, 80, 256, none⟩])

def Fstrings_Trim_strings_trimRightASCII_0 (lstrings_Trim_strings_trimRightASCII_0 : Sstrings_Trim_strings_trimRightASCII_0 → Option Ostrings_Trim_strings_trimRightASCII_0) : LoopF := ⟨fun e h k => match Nat.beq e.length 22 with
  | true => (match e.getD 0 .dead, e.getD 1 .dead, h with
    | (.v (.string s0)), (.ptr 0 0 0 0), [⟨[(.agg obj0_0)], 0, 0, true, true, 80, 256, none⟩] => optK (lstrings_Trim_strings_trimRightASCII_0 (.s0 s0 obj0_0)) (Tstrings_Trim_strings_trimRightASCII_0 k)
    | _, _, _ => none)
  | false => none⟩

def clstrings_Trim_strings_trimRightASCII_0 : List Tmp := [2, 3, 4, 5, 6, 7, 8, 9, 10, 11, 12, 13, 14, 15, 16, 17, 18, 19, 20, 21]
def clostrings_Trim_strings_trimRightASCII_0 : List Tmp := [1, 2, 3, 4, 5, 6, 7, 8, 9, 10, 11, 12, 13, 14, 15, 16, 17, 18, 19, 20, 21]

noncomputable def Rstrings_Trim_strings_trimRightASCII_0 {β : Type} (K : PureK) (d : Ostrings_Trim_strings_trimRightASCII_0 → Option β) (r : Sstrings_Trim_strings_trimRightASCII_0 → Option β) : Sstrings_Trim_strings_trimRightASCII_0 → Option β
  | .s0 s0 obj0_0 =>
    br (decide (((s0.size : Nat) : Int) > 0))
      (br (decide (0 ≤ w64 (((s0.size : Nat) : Int) - 1)))
        (br (decide (w64 (((s0.size : Nat) : Int) - 1) < ((s0.size : Nat) : Int)))
          (br (decide (bt s0 (w64 (((s0.size : Nat) : Int) - 1)).toNat < 256))
            (optK (obj0_0[0 + (bt s0 (w64 (((s0.size : Nat) : Int) - 1)).toNat).toNat * 1]?) fun wv1 =>
            Ab.asBool wv1 fun wb2 =>
            br (!wb2)
              (d (.x0 s0 obj0_0))
              (br (decide (0 ≤ w64 (((s0.size : Nat) : Int) - 1)))
                (br (decide (w64 (((s0.size : Nat) : Int) - 1) ≤ ((s0.size : Nat) : Int)))
                  (r (.s0 (cutStr s0 none (some (w64 (((s0.size : Nat) : Int) - 1)))) obj0_0))
                  (none))
                (none)))
            (none))
          (none))
        (none))
      (d (.x0 s0 obj0_0))
theorem roundstrings_Trim_strings_trimRightASCII_0 (K : PureK) {β : Type} (r : Env → Heap → Option β) (k : Ex → Env → Heap → Option β) (s : Sstrings_Trim_strings_trimRightASCII_0) : tellOne X K 0 57 0 [(1, 1, 0), (2, 1, 0), (3, 1, 0)] 1 clstrings_Trim_strings_trimRightASCII_0 clostrings_Trim_strings_trimRightASCII_0 r k (Estrings_Trim_strings_trimRightASCII_0 s) (Hstrings_Trim_strings_trimRightASCII_0 s) = Rstrings_Trim_strings_trimRightASCII_0 K (Tstrings_Trim_strings_trimRightASCII_0 k) (fun s => r (Estrings_Trim_strings_trimRightASCII_0 s) (Hstrings_Trim_strings_trimRightASCII_0 s)) s := by
  cases s <;> kernel_rfl
theorem Ostrings_Trim_strings_trimRightASCII_0.bind_k {β γ : Type} (o : Ostrings_Trim_strings_trimRightASCII_0) (c0 : ByteArray → (List AV) → Option β) (φ : β → Option γ) : (Ostrings_Trim_strings_trimRightASCII_0.k o c0).bind φ = Ostrings_Trim_strings_trimRightASCII_0.k o (fun s0 obj0_0 => (c0 s0 obj0_0).bind φ) := by cases o <;> rfl
theorem natstrings_Trim_strings_trimRightASCII_0 (K : PureK) {β γ : Type} (φ : β → Option γ) (d : Ostrings_Trim_strings_trimRightASCII_0 → Option β) (r : Sstrings_Trim_strings_trimRightASCII_0 → Option β) (s : Sstrings_Trim_strings_trimRightASCII_0) : Rstrings_Trim_strings_trimRightASCII_0 K (fun o => (d o).bind φ) (fun s => (r s).bind φ) s = (Rstrings_Trim_strings_trimRightASCII_0 K d r s).bind φ := by
  cases s <;> simp only [Rstrings_Trim_strings_trimRightASCII_0, bind_optK, bind_br, bind_asInt, bind_asBool, bind_asStr, bind_asLst, bind_asAgg, bind_asTup, bind_asBig, bind_asErr, bind_none]
theorem outstrings_Trim_strings_trimRightASCII_0 (o : Ostrings_Trim_strings_trimRightASCII_0) : ∃ x e' h', ∀ {β : Type} (k : Ex → Env → Heap → Option β), Tstrings_Trim_strings_trimRightASCII_0 k o = k x e' h' := by cases o <;> exact ⟨_, _, _, fun _ => rfl⟩
theorem okstrings_Trim_strings_trimRightASCII_0 {K : PureK} (hX : Sound X) (hK : KOk X K) {lstrings_Trim_strings_trimRightASCII_0 : Sstrings_Trim_strings_trimRightASCII_0 → Option Ostrings_Trim_strings_trimRightASCII_0} (hl : ∀ s o, lstrings_Trim_strings_trimRightASCII_0 s = some o → ∃ m, fuelRec (Rstrings_Trim_strings_trimRightASCII_0 K some) m s = some o) (β : Type) (e : Env) (h : Heap) (k : Ex → Env → Heap → Option β) (r : β) (hr : (Fstrings_Trim_strings_trimRightASCII_0 lstrings_Trim_strings_trimRightASCII_0).run e h k = some r) : ∃ x e' h', k x e' h' = some r ∧ CodeAt X (.loop (loopBody (X).P 57 0)) e h x e' h' := by
  obtain ⟨fn, c, hin⟩ := loopIn_of (X := X) (f := 57) (i := 0) (key := 1) (by kernel_rfl)
  simp only [Fstrings_Trim_strings_trimRightASCII_0] at hr
  split at hr
  · rename_i hlen
    have hlen := Nat.eq_of_beq_eq_true hlen
    split at hr
    · rename_i q0 q1
      obtain ⟨o, ho, hr⟩ := optK_some hr
      refine tell_ok hX (KOk.congr (X := X) (Y := X) rfl rfl hK) hin (E := Estrings_Trim_strings_trimRightASCII_0) (H := Hstrings_Trim_strings_trimRightASCII_0) (R := fun d r => Rstrings_Trim_strings_trimRightASCII_0 K d r) (T := Tstrings_Trim_strings_trimRightASCII_0) (ts := [(1, 1, 0), (2, 1, 0), (3, 1, 0)]) (len := 1) (cl := clstrings_Trim_strings_trimRightASCII_0) (clo := clostrings_Trim_strings_trimRightASCII_0) (roundstrings_Trim_strings_trimRightASCII_0 K) (natstrings_Trim_strings_trimRightASCII_0 K) outstrings_Trim_strings_trimRightASCII_0 (hl _ _ ho) (cl0 := clstrings_Trim_strings_trimRightASCII_0) (ts0 := []) ?_ rfl (by kernel_rfl) (by kernel_rfl) hr
      rw [clear_lit e 22 hlen, show clearEnv clstrings_Trim_strings_trimRightASCII_0 ((List.range 22).map fun i => e.getD i .dead) = [e.getD 0 .dead, e.getD 1 .dead, .dead, .dead, .dead, .dead, .dead, .dead, .dead, .dead, .dead, .dead, .dead, .dead, .dead, .dead, .dead, .dead, .dead, .dead, .dead, .dead] from by kernel_rfl]; rw [q0, q1]
      kernel_rfl
    · cases hr
  · cases hr
inductive Sstrings_Trim_strings_trimLeftASCII_0 where
  | s0 (s0 : ByteArray) (obj0_0 : List AV)

inductive Ostrings_Trim_strings_trimLeftASCII_0 where
  | x0 (s0 : ByteArray) (obj0_0 : List AV)

def Ostrings_Trim_strings_trimLeftASCII_0.k {β : Type} (o : Ostrings_Trim_strings_trimLeftASCII_0) (c0 : ByteArray → (List AV) → Option β) : Option β := match o with
  | .x0 s0 obj0_0 => c0 s0 obj0_0

def Estrings_Trim_strings_trimLeftASCII_0 : Sstrings_Trim_strings_trimLeftASCII_0 → Env
  | .s0 s0 obj0_0 => [(.v (.string s0)), (.ptr 0 0 0 0), .dead, .dead, .dead, .dead, .dead, .dead, .dead, .dead, .dead, .dead, .dead, .dead, .dead, .dead]

def Hstrings_Trim_strings_trimLeftASCII_0 : Sstrings_Trim_strings_trimLeftASCII_0 → Heap
  | .s0 s0 obj0_0 => [⟨[(.agg obj0_0)], 0, 0, true, true, 80, 256, none⟩]

def Tstrings_Trim_strings_trimLeftASCII_0 {β : Type} (k : Ex → Env → Heap → Option β) (o : Ostrings_Trim_strings_trimLeftASCII_0) : Option β := Ostrings_Trim_strings_trimLeftASCII_0.k o (fun s0 obj0_0 => k (.exit 0) [(.v (.string s0)), .dead, .dead, .dead, .dead, .dead, .dead, .dead, .dead, .dead, .dead, .dead, .dead, .dead, .dead, .dead] [⟨[(.agg obj0_0)], 0, 0, true, true, 80, 256, none⟩])

def Fstrings_Trim_strings_trimLeftASCII_0 (lstrings_Trim_strings_trimLeftASCII_0 : Sstrings_Trim_strings_trimLeftASCII_0 → Option Ostrings_Trim_strings_trimLeftASCII_0) : LoopF := ⟨fun e h k => match Nat.beq e.length 16 with
  | true => (match e.getD 0 .dead, e.getD 1 .dead, h with
    | (.v (.string s0)), (.ptr 0 0 0 0), [⟨[(.agg obj0_0)], 0, 0, true, true, 80, 256, none⟩] => optK (lstrings_Trim_strings_trimLeftASCII_0 (.s0 s0 obj0_0)) (Tstrings_Trim_strings_trimLeftASCII_0 k)
    | _, _, _ => none)
  | false => none⟩

def clstrings_Trim_strings_trimLeftASCII_0 : List Tmp := [2, 3, 4, 5, 6, 7, 8, 9, 10, 11, 12, 13, 14, 15]
def clostrings_Trim_strings_trimLeftASCII_0 : List Tmp := [1, 2, 3, 4, 5, 6, 7, 8, 9, 10, 11, 12, 13, 14, 15]

noncomputable def Rstrings_Trim_strings_trimLeftASCII_0 {β : Type} (K : PureK) (d : Ostrings_Trim_strings_trimLeftASCII_0 → Option β) (r : Sstrings_Trim_strings_trimLeftASCII_0 → Option β) : Sstrings_Trim_strings_trimLeftASCII_0 → Option β
  | .s0 s0 obj0_0 =>
    br (decide (((s0.size : Nat) : Int) > 0))
      (br (decide (0 < ((s0.size : Nat) : Int)))
        (br (decide (bt s0 0 < 256))
          (optK (obj0_0[0 + (bt s0 0).toNat * 1]?) fun wv1 =>
          Ab.asBool wv1 fun wb2 =>
          br (!wb2)
            (d (.x0 s0 obj0_0))
            (br (decide (1 ≤ ((s0.size : Nat) : Int)))
              (r (.s0 (cutStr s0 (some 1) none) obj0_0))
              (none)))
          (none))
        (none))
      (d (.x0 s0 obj0_0))
theorem roundstrings_Trim_strings_trimLeftASCII_0 (K : PureK) (lstrings_Trim_strings_trimRightASCII_0 : Sstrings_Trim_strings_trimRightASCII_0 → Option Ostrings_Trim_strings_trimRightASCII_0) {β : Type} (r : Env → Heap → Option β) (k : Ex → Env → Heap → Option β) (s : Sstrings_Trim_strings_trimLeftASCII_0) : tellOne (addLp X 57 1 (Fstrings_Trim_strings_trimRightASCII_0 lstrings_Trim_strings_trimRightASCII_0)) K 0 56 0 [(1, 1, 0), (2, 1, 0), (3, 1, 0)] 1 clstrings_Trim_strings_trimLeftASCII_0 clostrings_Trim_strings_trimLeftASCII_0 r k (Estrings_Trim_strings_trimLeftASCII_0 s) (Hstrings_Trim_strings_trimLeftASCII_0 s) = Rstrings_Trim_strings_trimLeftASCII_0 K (Tstrings_Trim_strings_trimLeftASCII_0 k) (fun s => r (Estrings_Trim_strings_trimLeftASCII_0 s) (Hstrings_Trim_strings_trimLeftASCII_0 s)) s := by
  cases s <;> kernel_rfl
theorem Ostrings_Trim_strings_trimLeftASCII_0.bind_k {β γ : Type} (o : Ostrings_Trim_strings_trimLeftASCII_0) (c0 : ByteArray → (List AV) → Option β) (φ : β → Option γ) : (Ostrings_Trim_strings_trimLeftASCII_0.k o c0).bind φ = Ostrings_Trim_strings_trimLeftASCII_0.k o (fun s0 obj0_0 => (c0 s0 obj0_0).bind φ) := by cases o <;> rfl
theorem natstrings_Trim_strings_trimLeftASCII_0 (K : PureK) {β γ : Type} (φ : β → Option γ) (d : Ostrings_Trim_strings_trimLeftASCII_0 → Option β) (r : Sstrings_Trim_strings_trimLeftASCII_0 → Option β) (s : Sstrings_Trim_strings_trimLeftASCII_0) : Rstrings_Trim_strings_trimLeftASCII_0 K (fun o => (d o).bind φ) (fun s => (r s).bind φ) s = (Rstrings_Trim_strings_trimLeftASCII_0 K d r s).bind φ := by
  cases s <;> simp only [Rstrings_Trim_strings_trimLeftASCII_0, bind_optK, bind_br, bind_asInt, bind_asBool, bind_asStr, bind_asLst, bind_asAgg, bind_asTup, bind_asBig, bind_asErr, bind_none]
theorem outstrings_Trim_strings_trimLeftASCII_0 (o : Ostrings_Trim_strings_trimLeftASCII_0) : ∃ x e' h', ∀ {β : Type} (k : Ex → Env → Heap → Option β), Tstrings_Trim_strings_trimLeftASCII_0 k o = k x e' h' := by cases o <;> exact ⟨_, _, _, fun _ => rfl⟩
theorem okstrings_Trim_strings_trimLeftASCII_0 {K : PureK} (lstrings_Trim_strings_trimRightASCII_0 : Sstrings_Trim_strings_trimRightASCII_0 → Option Ostrings_Trim_strings_trimRightASCII_0) (hX : Sound (addLp X 57 1 (Fstrings_Trim_strings_trimRightASCII_0 lstrings_Trim_strings_trimRightASCII_0))) (hK : KOk X K) {lstrings_Trim_strings_trimLeftASCII_0 : Sstrings_Trim_strings_trimLeftASCII_0 → Option Ostrings_Trim_strings_trimLeftASCII_0} (hl : ∀ s o, lstrings_Trim_strings_trimLeftASCII_0 s = some o → ∃ m, fuelRec (Rstrings_Trim_strings_trimLeftASCII_0 K some) m s = some o) (β : Type) (e : Env) (h : Heap) (k : Ex → Env → Heap → Option β) (r : β) (hr : (Fstrings_Trim_strings_trimLeftASCII_0 lstrings_Trim_strings_trimLeftASCII_0).run e h k = some r) : ∃ x e' h', k x e' h' = some r ∧ CodeAt (addLp X 57 1 (Fstrings_Trim_strings_trimRightASCII_0 lstrings_Trim_strings_trimRightASCII_0)) (.loop (loopBody ((addLp X 57 1 (Fstrings_Trim_strings_trimRightASCII_0 lstrings_Trim_strings_trimRightASCII_0))).P 56 0)) e h x e' h' := by
  obtain ⟨fn, c, hin⟩ := loopIn_of (X := (addLp X 57 1 (Fstrings_Trim_strings_trimRightASCII_0 lstrings_Trim_strings_trimRightASCII_0))) (f := 56) (i := 0) (key := 1) (by kernel_rfl)
  simp only [Fstrings_Trim_strings_trimLeftASCII_0] at hr
  split at hr
  · rename_i hlen
    have hlen := Nat.eq_of_beq_eq_true hlen
    split at hr
    · rename_i q0 q1
      obtain ⟨o, ho, hr⟩ := optK_some hr
      refine tell_ok hX (KOk.congr (X := X) (Y := (addLp X 57 1 (Fstrings_Trim_strings_trimRightASCII_0 lstrings_Trim_strings_trimRightASCII_0))) rfl rfl hK) hin (E := Estrings_Trim_strings_trimLeftASCII_0) (H := Hstrings_Trim_strings_trimLeftASCII_0) (R := fun d r => Rstrings_Trim_strings_trimLeftASCII_0 K d r) (T := Tstrings_Trim_strings_trimLeftASCII_0) (ts := [(1, 1, 0), (2, 1, 0), (3, 1, 0)]) (len := 1) (cl := clstrings_Trim_strings_trimLeftASCII_0) (clo := clostrings_Trim_strings_trimLeftASCII_0) (roundstrings_Trim_strings_trimLeftASCII_0 K lstrings_Trim_strings_trimRightASCII_0) (natstrings_Trim_strings_trimLeftASCII_0 K) outstrings_Trim_strings_trimLeftASCII_0 (hl _ _ ho) (cl0 := clstrings_Trim_strings_trimLeftASCII_0) (ts0 := []) ?_ rfl (by kernel_rfl) (by kernel_rfl) hr
      rw [clear_lit e 16 hlen, show clearEnv clstrings_Trim_strings_trimLeftASCII_0 ((List.range 16).map fun i => e.getD i .dead) = [e.getD 0 .dead, e.getD 1 .dead, .dead, .dead, .dead, .dead, .dead, .dead, .dead, .dead, .dead, .dead, .dead, .dead, .dead, .dead] from by kernel_rfl]; rw [q0, q1]
      kernel_rfl
    · cases hr
  · cases hr
noncomputable def Rstrings_Trim (K : PureK) (lstrings_Trim_strings_trimRightASCII_0 : Sstrings_Trim_strings_trimRightASCII_0 → Option Ostrings_Trim_strings_trimRightASCII_0) (lstrings_Trim_strings_trimLeftASCII_0 : Sstrings_Trim_strings_trimLeftASCII_0 → Option Ostrings_Trim_strings_trimLeftASCII_0) (s0 : ByteArray) (cutset1 : ByteArray) : Option AV :=
  optK (br (strEq s0 ({ data := #[] } : ByteArray))
        (some (bv true))
        (some (bv (strEq cutset1 ({ data := #[] } : ByteArray))))) fun wv27 =>
    Ab.asBool wv27 fun wb28 =>
    br wb28
      (some (sv s0))
      (optK (br (((cutset1.size : Nat) : Int) == 1)
          (br (decide (0 < ((cutset1.size : Nat) : Int)))
            (some (bv (decide (bt cutset1 0 < 128))))
            (none))
          (some (bv false))) fun wv29 =>
      Ab.asBool wv29 fun wb30 =>
      br wb30
        (br (decide (0 < ((cutset1.size : Nat) : Int)))
          (optK (K f_strings_trimRightByte [sv s0, uv (bt cutset1 0)]) fun wv31 =>
          Ab.asStr wv31 fun ws32 =>
          br (decide (0 < ((cutset1.size : Nat) : Int)))
            (optK (K f_strings_trimLeftByte [sv ws32, uv (bt cutset1 0)]) fun wv33 =>
            Ab.asStr wv33 fun ws34 =>
            some (sv ws34))
            (none))
          (none))
        (optK (K f_strings_makeASCIISet [sv cutset1]) fun wv35 =>
        Ab.asTup wv35 2 fun wg36 =>
        Ab.asBig (wg36 0) 256 fun wc37 =>
        Ab.asBool (wg36 1) fun wb38 =>
        br (refFree (AV.tup [AV.agg wc37, bv wb38]))
          (br (fits Tryd.prog 80 (AV.agg wc37) && (true || refFree (AV.agg wc37)))
            (br wb38
              (optK (lstrings_Trim_strings_trimRightASCII_0 (Sstrings_Trim_strings_trimRightASCII_0.s0 s0 wc37)) fun wo39 => Ostrings_Trim_strings_trimRightASCII_0.k wo39 (fun (s0_40 : ByteArray) (obj0_0_40 : List AV) =>
              optK (lstrings_Trim_strings_trimLeftASCII_0 (Sstrings_Trim_strings_trimLeftASCII_0.s0 s0_40 obj0_0_40)) fun wo41 => Ostrings_Trim_strings_trimLeftASCII_0.k wo41 (fun (s0_42 : ByteArray) (obj0_0_42 : List AV) =>
              some (sv s0_42))))
              (optK (K f_strings_trimRightUnicode [sv s0, sv cutset1]) fun wv43 =>
              Ab.asStr wv43 fun ws44 =>
              optK (K f_strings_trimLeftUnicode [sv ws44, sv cutset1]) fun wv45 =>
              Ab.asStr wv45 fun ws46 =>
              some (sv ws46)))
            (none))
          (none)))
theorem topstrings_Trim (K : PureK) (lstrings_Trim_strings_trimRightASCII_0 : Sstrings_Trim_strings_trimRightASCII_0 → Option Ostrings_Trim_strings_trimRightASCII_0) (lstrings_Trim_strings_trimLeftASCII_0 : Sstrings_Trim_strings_trimLeftASCII_0 → Option Ostrings_Trim_strings_trimLeftASCII_0) (s0 : ByteArray) (cutset1 : ByteArray) : topK (addLp (addLp X 57 1 (Fstrings_Trim_strings_trimRightASCII_0 lstrings_Trim_strings_trimRightASCII_0)) 56 1 (Fstrings_Trim_strings_trimLeftASCII_0 lstrings_Trim_strings_trimLeftASCII_0)) K 0 f_strings_Trim [(.v (.string s0)), (.v (.string cutset1))] = Rstrings_Trim K lstrings_Trim_strings_trimRightASCII_0 lstrings_Trim_strings_trimLeftASCII_0 s0 cutset1 := by kernel_rfl
theorem pcstrings_Trim {K : PureK} (hK : KOk X K) {lstrings_Trim_strings_trimRightASCII_0 : Sstrings_Trim_strings_trimRightASCII_0 → Option Ostrings_Trim_strings_trimRightASCII_0} {lstrings_Trim_strings_trimLeftASCII_0 : Sstrings_Trim_strings_trimLeftASCII_0 → Option Ostrings_Trim_strings_trimLeftASCII_0} (hstrings_Trim_strings_trimRightASCII_0 : ∀ s o, lstrings_Trim_strings_trimRightASCII_0 s = some o → ∃ m, fuelRec (Rstrings_Trim_strings_trimRightASCII_0 K some) m s = some o) (hstrings_Trim_strings_trimLeftASCII_0 : ∀ s o, lstrings_Trim_strings_trimLeftASCII_0 s = some o → ∃ m, fuelRec (Rstrings_Trim_strings_trimLeftASCII_0 K some) m s = some o) {s0 : ByteArray} {cutset1 : ByteArray} {v : AV} (h : Rstrings_Trim K lstrings_Trim_strings_trimRightASCII_0 lstrings_Trim_strings_trimLeftASCII_0 s0 cutset1 = some v) : PureCall X f_strings_Trim [(.v (.string s0)), (.v (.string cutset1))] v := by
  have hSo0 := soundX
  obtain ⟨_, _, hin0⟩ := loopIn_of (X := X) (f := 57) (i := 0) (key := 1) (by kernel_rfl)
  have hSo1 := sound_add hSo0 hin0 (okstrings_Trim_strings_trimRightASCII_0 hSo0 hK hstrings_Trim_strings_trimRightASCII_0)
  obtain ⟨_, _, hin1⟩ := loopIn_of (X := (addLp X 57 1 (Fstrings_Trim_strings_trimRightASCII_0 lstrings_Trim_strings_trimRightASCII_0))) (f := 56) (i := 0) (key := 1) (by kernel_rfl)
  have hSo2 := sound_add hSo1 hin1 (okstrings_Trim_strings_trimLeftASCII_0 lstrings_Trim_strings_trimRightASCII_0 hSo1 hK hstrings_Trim_strings_trimLeftASCII_0)
  exact tell_top (X := X) (Y := (addLp (addLp X 57 1 (Fstrings_Trim_strings_trimRightASCII_0 lstrings_Trim_strings_trimRightASCII_0)) 56 1 (Fstrings_Trim_strings_trimLeftASCII_0 lstrings_Trim_strings_trimLeftASCII_0))) rfl rfl hSo2 hK ((topstrings_Trim K lstrings_Trim_strings_trimRightASCII_0 lstrings_Trim_strings_trimLeftASCII_0 s0 cutset1).trans h)

/-! 60: internal/strconv.Atoi -/
inductive Si_strconv_Atoi_0 where
  | s0 (s05 : ByteArray) (n6 : Int) (t47 : List AV) (t48 : Int) (t49 : Int)

inductive Oi_strconv_Atoi_0 where
  | x0 (t2 : Int) (t3i : Int) (s05 : ByteArray) (n6 : Int)
  | x1 (s05 : ByteArray) (n6 : Int)

def Oi_strconv_Atoi_0.k {β : Type} (o : Oi_strconv_Atoi_0) (c0 : Int → Int → ByteArray → Int → Option β) (c1 : ByteArray → Int → Option β) : Option β := match o with
  | .x0 t2 t3i s05 n6 => c0 t2 t3i s05 n6
  | .x1 s05 n6 => c1 s05 n6

def Ei_strconv_Atoi_0 : Si_strconv_Atoi_0 → Env
  | .s0 s05 n6 t47 t48 t49 => [.dead, .dead, .dead, .dead, .dead, (.v (.string s05)), (.v (.int .i64 n6)), .dead, .dead, .dead, .dead, .dead, .dead, .dead, .dead, .dead, .dead, .dead, .dead, .dead, .dead, .dead, .dead, .dead, .dead, .dead, .dead, .dead, .dead, .dead, .dead, .dead, .dead, .dead, .dead, .dead, .dead, .dead, .dead, .dead, .dead, .dead, .dead, .dead, .dead, .dead, .dead, (.lst 1 false t47), (.v (.int .i64 t48)), (.v (.int .i64 t49)), .dead, .dead, .dead, .dead, .dead, .dead, .dead, .dead, .dead, .dead, .dead, .dead, .dead, .dead, .dead, .dead, .dead, .dead, .dead, .dead, .dead, .dead, .dead, .dead, .dead, .dead, .dead]

def Hi_strconv_Atoi_0 : Si_strconv_Atoi_0 → Heap
  | .s0 s05 n6 t47 t48 t49 => []

def Ti_strconv_Atoi_0 {β : Type} (k : Ex → Env → Heap → Option β) (o : Oi_strconv_Atoi_0) : Option β := Oi_strconv_Atoi_0.k o (fun t2 t3i s05 n6 => k .ret [.dead, .dead, (.v (.int .i64 t2)), (.iface 93 (.v (.int .i64 t3i))), .dead, (.v (.string s05)), (.v (.int .i64 n6)), .dead, .dead, .dead, .dead, .dead, .dead, .dead, .dead, .dead, .dead, .dead, .dead, .dead, .dead, .dead, .dead, .dead, .dead, .dead, .dead, .dead, .dead, .dead, .dead, .dead, .dead, .dead, .dead, .dead, .dead, .dead, .dead, .dead, .dead, .dead, .dead, .dead, .dead, .dead, .dead, .dead, .dead, .dead, .dead, .dead, .dead, .dead, .dead, .dead, .dead, .dead, .dead, .dead, .dead, .dead, .dead, .dead, .dead, .dead, .dead, .dead, .dead, .dead, .dead, .dead, .dead, .dead, .dead, .dead, .dead] []) (fun s05 n6 => k (.exit 0) [.dead, .dead, .dead, .dead, .dead, (.v (.string s05)), (.v (.int .i64 n6)), .dead, .dead, .dead, .dead, .dead, .dead, .dead, .dead, .dead, .dead, .dead, .dead, .dead, .dead, .dead, .dead, .dead, .dead, .dead, .dead, .dead, .dead, .dead, .dead, .dead, .dead, .dead, .dead, .dead, .dead, .dead, .dead, .dead, .dead, .dead, .dead, .dead, .dead, .dead, .dead, .dead, .dead, .dead, .dead, .dead, .dead, .dead, .dead, .dead, .dead, .dead, .dead, .dead, .dead, .dead, .dead, .dead, .dead, .dead, .dead, .dead, .dead, .dead, .dead, .dead, .dead, .dead, .dead, .dead, .dead] [])

def Fi_strconv_Atoi_0 (li_strconv_Atoi_0 : Si_strconv_Atoi_0 → Option Oi_strconv_Atoi_0) : LoopF := ⟨fun e h k => match Nat.beq e.length 77 with
  | true => (match e.getD 5 .dead, e.getD 6 .dead, e.getD 47 .dead, e.getD 48 .dead, e.getD 49 .dead, h with
    | (.v (.string s05)), (.v (.int .i64 n6)), (.lst 1 false t47), (.v (.int .i64 t48)), (.v (.int .i64 t49)), [] => optK (li_strconv_Atoi_0 (.s0 s05 n6 t47 t48 t49)) (Ti_strconv_Atoi_0 k)
    | _, _, _, _, _, _ => none)
  | false => none⟩

def cli_strconv_Atoi_0 : List Tmp := [0, 1, 2, 3, 4, 7, 8, 9, 10, 11, 12, 13, 14, 15, 16, 17, 18, 19, 20, 21, 22, 23, 24, 25, 26, 27, 28, 29, 30, 31, 32, 33, 34, 35, 36, 37, 38, 39, 40, 41, 42, 43, 44, 45, 46, 50, 51, 52, 53, 54, 55, 56, 57, 58, 59, 60, 61, 62, 63, 64, 65, 66, 67, 68, 69, 70, 71, 72, 73, 74, 75, 76]
def cloi_strconv_Atoi_0 : List Tmp := [0, 1, 4, 7, 8, 9, 10, 11, 12, 13, 14, 15, 16, 17, 18, 19, 20, 21, 22, 23, 24, 25, 26, 27, 28, 29, 30, 31, 32, 33, 34, 35, 36, 37, 38, 39, 40, 41, 42, 43, 44, 45, 46, 47, 48, 49, 50, 51, 52, 53, 54, 55, 56, 57, 58, 59, 60, 61, 62, 63, 64, 65, 66, 67, 68, 69, 70, 71, 72, 73, 74, 75, 76]

noncomputable def Ri_strconv_Atoi_0 {β : Type} (K : PureK) (d : Oi_strconv_Atoi_0 → Option β) (r : Si_strconv_Atoi_0 → Option β) : Si_strconv_Atoi_0 → Option β
  | .s0 s05 n6 t47 t48 t49 =>
    br (decide (t49 < t48))
      (br (decide (0 ≤ t49))
        (br (decide (t49 < ((t47.length : Nat) : Int)))
          (optK t47[t49.toNat]? fun wv1 =>
          Ab.asInt wv1 .u8 fun wn2 =>
          br (decide (w8 (wn2 - 48) > 9))
            (d (.x0 0 2 s05 n6))
            (r (.s0 s05 (w64 (w64 (n6 * 10) + w64 (w8 (wn2 - 48)))) t47 t48 (w64 (t49 + 1)))))
          (none))
        (none))
      (d (.x1 s05 n6))
theorem roundi_strconv_Atoi_0 (K : PureK) {β : Type} (r : Env → Heap → Option β) (k : Ex → Env → Heap → Option β) (s : Si_strconv_Atoi_0) : tellOne X K 0 60 0 [(0, 1, 0), (1, 1, 0), (2, 1, 0)] 0 cli_strconv_Atoi_0 cloi_strconv_Atoi_0 r k (Ei_strconv_Atoi_0 s) (Hi_strconv_Atoi_0 s) = Ri_strconv_Atoi_0 K (Ti_strconv_Atoi_0 k) (fun s => r (Ei_strconv_Atoi_0 s) (Hi_strconv_Atoi_0 s)) s := by
  cases s <;> kernel_rfl
theorem Oi_strconv_Atoi_0.bind_k {β γ : Type} (o : Oi_strconv_Atoi_0) (c0 : Int → Int → ByteArray → Int → Option β) (c1 : ByteArray → Int → Option β) (φ : β → Option γ) : (Oi_strconv_Atoi_0.k o c0 c1).bind φ = Oi_strconv_Atoi_0.k o (fun t2 t3i s05 n6 => (c0 t2 t3i s05 n6).bind φ) (fun s05 n6 => (c1 s05 n6).bind φ) := by cases o <;> rfl
theorem nati_strconv_Atoi_0 (K : PureK) {β γ : Type} (φ : β → Option γ) (d : Oi_strconv_Atoi_0 → Option β) (r : Si_strconv_Atoi_0 → Option β) (s : Si_strconv_Atoi_0) : Ri_strconv_Atoi_0 K (fun o => (d o).bind φ) (fun s => (r s).bind φ) s = (Ri_strconv_Atoi_0 K d r s).bind φ := by
  cases s <;> simp only [Ri_strconv_Atoi_0, bind_optK, bind_br, bind_asInt, bind_asBool, bind_asStr, bind_asLst, bind_asAgg, bind_asTup, bind_asBig, bind_asErr, bind_none]
theorem outi_strconv_Atoi_0 (o : Oi_strconv_Atoi_0) : ∃ x e' h', ∀ {β : Type} (k : Ex → Env → Heap → Option β), Ti_strconv_Atoi_0 k o = k x e' h' := by cases o <;> exact ⟨_, _, _, fun _ => rfl⟩
theorem oki_strconv_Atoi_0 {K : PureK} (hX : Sound X) (hK : KOk X K) {li_strconv_Atoi_0 : Si_strconv_Atoi_0 → Option Oi_strconv_Atoi_0} (hl : ∀ s o, li_strconv_Atoi_0 s = some o → ∃ m, fuelRec (Ri_strconv_Atoi_0 K some) m s = some o) (β : Type) (e : Env) (h : Heap) (k : Ex → Env → Heap → Option β) (r : β) (hr : (Fi_strconv_Atoi_0 li_strconv_Atoi_0).run e h k = some r) : ∃ x e' h', k x e' h' = some r ∧ CodeAt X (.loop (loopBody (X).P 60 0)) e h x e' h' := by
  obtain ⟨fn, c, hin⟩ := loopIn_of (X := X) (f := 60) (i := 0) (key := 10) (by kernel_rfl)
  simp only [Fi_strconv_Atoi_0] at hr
  split at hr
  · rename_i hlen
    have hlen := Nat.eq_of_beq_eq_true hlen
    split at hr
    · rename_i q5 q6 q47 q48 q49
      obtain ⟨o, ho, hr⟩ := optK_some hr
      refine tell_ok hX (KOk.congr (X := X) (Y := X) rfl rfl hK) hin (E := Ei_strconv_Atoi_0) (H := Hi_strconv_Atoi_0) (R := fun d r => Ri_strconv_Atoi_0 K d r) (T := Ti_strconv_Atoi_0) (ts := [(0, 1, 0), (1, 1, 0), (2, 1, 0)]) (len := 0) (cl := cli_strconv_Atoi_0) (clo := cloi_strconv_Atoi_0) (roundi_strconv_Atoi_0 K) (nati_strconv_Atoi_0 K) outi_strconv_Atoi_0 (hl _ _ ho) (cl0 := cli_strconv_Atoi_0) (ts0 := []) ?_ rfl (by kernel_rfl) (by kernel_rfl) hr
      rw [clear_lit e 77 hlen, show clearEnv cli_strconv_Atoi_0 ((List.range 77).map fun i => e.getD i .dead) = [.dead, .dead, .dead, .dead, .dead, e.getD 5 .dead, e.getD 6 .dead, .dead, .dead, .dead, .dead, .dead, .dead, .dead, .dead, .dead, .dead, .dead, .dead, .dead, .dead, .dead, .dead, .dead, .dead, .dead, .dead, .dead, .dead, .dead, .dead, .dead, .dead, .dead, .dead, .dead, .dead, .dead, .dead, .dead, .dead, .dead, .dead, .dead, .dead, .dead, .dead, e.getD 47 .dead, e.getD 48 .dead, e.getD 49 .dead, .dead, .dead, .dead, .dead, .dead, .dead, .dead, .dead, .dead, .dead, .dead, .dead, .dead, .dead, .dead, .dead, .dead, .dead, .dead, .dead, .dead, .dead, .dead, .dead, .dead, .dead, .dead] from by kernel_rfl]; rw [q5, q6, q47, q48, q49]
      kernel_rfl
    · cases hr
  · cases hr
noncomputable def Ri_strconv_Atoi (K : PureK) (li_strconv_Atoi_0 : Si_strconv_Atoi_0 → Option Oi_strconv_Atoi_0) (s0 : ByteArray) : Option AV :=
  optK (br (decide (0 < ((s0.size : Nat) : Int)))
        (some (bv (decide (((s0.size : Nat) : Int) < 19))))
        (some (bv false))) fun wv5 =>
    Ab.asBool wv5 fun wb6 =>
    br wb6
      (optK (br (decide (0 < ((s0.size : Nat) : Int)))
          (br (bt s0 0 == 45)
            (some (bv true))
            (br (decide (0 < ((s0.size : Nat) : Int)))
              (some (bv (bt s0 0 == 43)))
              (none)))
          (none)) fun wv7 =>
      Ab.asBool wv7 fun wb8 =>
      br wb8
        (br (decide (1 ≤ ((s0.size : Nat) : Int)))
          (br (decide ((((cutStr s0 (some 1) none).size : Nat) : Int) < 1))
            (some (AV.tup [iv 0, AV.iface 93 (iv 2)]))
            (optK (li_strconv_Atoi_0 (Si_strconv_Atoi_0.s0 s0 0 (bytesRows (cutStr s0 (some 1) none)) ((((bytesRows (cutStr s0 (some 1) none)).length : Nat) : Int)) 0)) fun wo9 => Oi_strconv_Atoi_0.k wo9
              (fun (t2_10 : Int) (t3i_10 : Int) (s05_10 : ByteArray) (n6_10 : Int) => some (AV.tup [iv t2_10, AV.iface 93 (iv t3i_10)]))
              (fun (s05_11 : ByteArray) (n6_11 : Int) => br (decide (0 < ((s05_11.size : Nat) : Int)))
                (br (bt s05_11 0 == 45)
                  (some (AV.tup [iv (w64 (0 - n6_11)), AV.v Value.nilIface]))
                  (some (AV.tup [iv n6_11, AV.v Value.nilIface])))
                (none))))
          (none))
        (optK (li_strconv_Atoi_0 (Si_strconv_Atoi_0.s0 s0 0 (bytesRows s0) ((((bytesRows s0).length : Nat) : Int)) 0)) fun wo12 => Oi_strconv_Atoi_0.k wo12
          (fun (t2_13 : Int) (t3i_13 : Int) (s05_13 : ByteArray) (n6_13 : Int) => some (AV.tup [iv t2_13, AV.iface 93 (iv t3i_13)]))
          (fun (s05_14 : ByteArray) (n6_14 : Int) => br (decide (0 < ((s05_14.size : Nat) : Int)))
            (br (bt s05_14 0 == 45)
              (some (AV.tup [iv (w64 (0 - n6_14)), AV.v Value.nilIface]))
              (some (AV.tup [iv n6_14, AV.v Value.nilIface])))
            (none))))
      (optK (K f_i_strconv_ParseInt [sv s0, iv 10, iv 0]) fun wv15 =>
      Ab.asTup wv15 2 fun wg16 =>
      Ab.asInt (wg16 0) .i64 fun wn17 =>
      br (refFree (AV.tup [iv wn17, (wg16 1)]))
        (br (refFree (AV.tup [iv wn17, (wg16 1)]))
          (some (AV.tup [iv wn17, (wg16 1)]))
          (none))
        (none))
theorem topi_strconv_Atoi (K : PureK) (li_strconv_Atoi_0 : Si_strconv_Atoi_0 → Option Oi_strconv_Atoi_0) (s0 : ByteArray) : topK (addLp X 60 10 (Fi_strconv_Atoi_0 li_strconv_Atoi_0)) K 0 f_i_strconv_Atoi [(.v (.string s0))] = Ri_strconv_Atoi K li_strconv_Atoi_0 s0 := by kernel_rfl
theorem pci_strconv_Atoi {K : PureK} (hK : KOk X K) {li_strconv_Atoi_0 : Si_strconv_Atoi_0 → Option Oi_strconv_Atoi_0} (hi_strconv_Atoi_0 : ∀ s o, li_strconv_Atoi_0 s = some o → ∃ m, fuelRec (Ri_strconv_Atoi_0 K some) m s = some o) {s0 : ByteArray} {v : AV} (h : Ri_strconv_Atoi K li_strconv_Atoi_0 s0 = some v) : PureCall X f_i_strconv_Atoi [(.v (.string s0))] v := by
  have hSo0 := soundX
  obtain ⟨_, _, hin0⟩ := loopIn_of (X := X) (f := 60) (i := 0) (key := 10) (by kernel_rfl)
  have hSo1 := sound_add hSo0 hin0 (oki_strconv_Atoi_0 hSo0 hK hi_strconv_Atoi_0)
  exact tell_top (X := X) (Y := (addLp X 60 10 (Fi_strconv_Atoi_0 li_strconv_Atoi_0))) rfl rfl hSo1 hK ((topi_strconv_Atoi K li_strconv_Atoi_0 s0).trans h)

/-! 45: strconv.Atoi -/
noncomputable def Rstrconv_Atoi (K : PureK) (s0 : ByteArray) : Option AV :=
  optK (K f_i_strconv_Atoi [sv s0]) fun wv1 =>
    Ab.asTup wv1 2 fun wg2 =>
    Ab.asInt (wg2 0) .i64 fun wn3 =>
    br (refFree (AV.tup [iv wn3, (wg2 1)]))
      (asErr (wg2 1)
        (some (AV.tup [iv wn3, AV.v Value.nilIface]))
        (fun wt4 wi4 => none))
      (none)
theorem topstrconv_Atoi (K : PureK) (s0 : ByteArray) : topK (withStop X [61]) K 0 f_strconv_Atoi [(.v (.string s0))] = Rstrconv_Atoi K s0 := by kernel_rfl
theorem pcstrconv_Atoi {K : PureK} (hK : KOk X K) {s0 : ByteArray} {v : AV} (h : Rstrconv_Atoi K s0 = some v) : PureCall X f_strconv_Atoi [(.v (.string s0))] v := by
  have hSo0 := (sound_stop soundX [61])
  exact tell_top (X := X) (Y := (withStop X [61])) rfl rfl hSo0 hK ((topstrconv_Atoi K s0).trans h)

abbrev f_slices_ContainsFunc__long : FuncId := 19
/-! 19: slices.ContainsFunc[[]string,string] -/
noncomputable def Rslices_ContainsFunc__long (K : PureK) (s0n : Bool) (s0 : List AV) : Option AV :=
  optK (K f_slices_IndexFunc_string_string [AV.lst 1 s0n s0, AV.fn (Fn.func 20) [] []]) fun wv1 =>
    Ab.asInt wv1 .i64 fun wn2 =>
    some (bv (decide (wn2 ≥ 0)))
theorem topslices_ContainsFunc__long (K : PureK) (s0n : Bool) (s0 : List AV) : topK X K 0 f_slices_ContainsFunc__long [(.lst 1 s0n s0), (.fn (.func 20) [] [])] = Rslices_ContainsFunc__long K s0n s0 := by kernel_rfl
theorem pcslices_ContainsFunc__long {K : PureK} (hK : KOk X K) {s0n : Bool} {s0 : List AV} {v : AV} (h : Rslices_ContainsFunc__long K s0n s0 = some v) : PureCall X f_slices_ContainsFunc__long [(.lst 1 s0n s0), (.fn (.func 20) [] [])] v := by
  have hSo0 := soundX
  exact tell_top (X := X) (Y := X) rfl rfl hSo0 hK ((topslices_ContainsFunc__long K s0n s0).trans h)

abbrev f_slices_IndexFunc__long : FuncId := 28
/-! 28: slices.IndexFunc[[]string,string] -/
inductive Sslices_IndexFunc__long_0 where
  | s0 (s0n : Bool) (s0 : List AV) (t7 : Int) (t8 : Int)

inductive Oslices_IndexFunc__long_0 where
  | x0 (t4 : Int)
  | x1

def Oslices_IndexFunc__long_0.k {β : Type} (o : Oslices_IndexFunc__long_0) (c0 : Int → Option β) (c1 : Option β) : Option β := match o with
  | .x0 t4 => c0 t4
  | .x1 => c1

def Eslices_IndexFunc__long_0 : Sslices_IndexFunc__long_0 → Env
  | .s0 s0n s0 t7 t8 => [(.lst 1 s0n s0), (.fn (.func 20) [] []), .dead, .dead, .dead, .dead, .dead, (.v (.int .i64 t7)), (.v (.int .i64 t8)), .dead, .dead, .dead, .dead, .dead, .dead, .dead, .dead, .dead, .dead]

def Hslices_IndexFunc__long_0 : Sslices_IndexFunc__long_0 → Heap
  | .s0 s0n s0 t7 t8 => []

def Tslices_IndexFunc__long_0 {β : Type} (k : Ex → Env → Heap → Option β) (o : Oslices_IndexFunc__long_0) : Option β := Oslices_IndexFunc__long_0.k o (fun t4 => k .ret [.dead, .dead, .dead, .dead, (.v (.int .i64 t4)), .dead, .dead, .dead, .dead, .dead, .dead, .dead, .dead, .dead, .dead, .dead, .dead, .dead, .dead] []) (k (.exit 0) [.dead, .dead, .dead, .dead, .dead, .dead, .dead, .dead, .dead, .dead, .dead, .dead, .dead, .dead, .dead, .dead, .dead, .dead, .dead] [])

def Fslices_IndexFunc__long_0 (lslices_IndexFunc__long_0 : Sslices_IndexFunc__long_0 → Option Oslices_IndexFunc__long_0) : LoopF := ⟨fun e h k => match Nat.beq e.length 19 with
  | true => (match e.getD 0 .dead, e.getD 1 .dead, e.getD 7 .dead, e.getD 8 .dead, h with
    | (.lst 1 s0n s0), (.fn (.func 20) [] []), (.v (.int .i64 t7)), (.v (.int .i64 t8)), [] => optK (lslices_IndexFunc__long_0 (.s0 s0n s0 t7 t8)) (Tslices_IndexFunc__long_0 k)
    | _, _, _, _, _ => none)
  | false => none⟩

def clslices_IndexFunc__long_0 : List Tmp := [2, 3, 4, 5, 6, 9, 10, 11, 12, 13, 14, 15, 16, 17, 18]
def closlices_IndexFunc__long_0 : List Tmp := [0, 1, 2, 3, 5, 6, 7, 8, 9, 10, 11, 12, 13, 14, 15, 16, 17, 18]

noncomputable def Rslices_IndexFunc__long_0 {β : Type} (K : PureK) (d : Oslices_IndexFunc__long_0 → Option β) (r : Sslices_IndexFunc__long_0 → Option β) : Sslices_IndexFunc__long_0 → Option β
  | .s0 s0n s0 t7 t8 =>
    br (decide (t8 < t7))
      (br (decide (0 ≤ t8))
        (br (decide (t8 < ((s0.length : Nat) : Int)))
          (optK s0[t8.toNat]? fun wv1 =>
          Ab.asStr wv1 fun ws2 =>
          optK (K f_token_Right_1 [sv ws2]) fun wv3 =>
          Ab.asBool wv3 fun wb4 =>
          br wb4
            (d (.x0 t8))
            (r (.s0 s0n s0 t7 (w64 (t8 + 1)))))
          (none))
        (none))
      (d (.x1))
theorem roundslices_IndexFunc__long_0 (K : PureK) {β : Type} (r : Env → Heap → Option β) (k : Ex → Env → Heap → Option β) (s : Sslices_IndexFunc__long_0) : tellOne X K 0 28 0 [(0, 1, 0), (1, 1, 0), (2, 1, 0)] 0 clslices_IndexFunc__long_0 closlices_IndexFunc__long_0 r k (Eslices_IndexFunc__long_0 s) (Hslices_IndexFunc__long_0 s) = Rslices_IndexFunc__long_0 K (Tslices_IndexFunc__long_0 k) (fun s => r (Eslices_IndexFunc__long_0 s) (Hslices_IndexFunc__long_0 s)) s := by
  cases s <;> kernel_rfl
theorem Oslices_IndexFunc__long_0.bind_k {β γ : Type} (o : Oslices_IndexFunc__long_0) (c0 : Int → Option β) (c1 : Option β) (φ : β → Option γ) : (Oslices_IndexFunc__long_0.k o c0 c1).bind φ = Oslices_IndexFunc__long_0.k o (fun t4 => (c0 t4).bind φ) (c1.bind φ) := by cases o <;> rfl
theorem natslices_IndexFunc__long_0 (K : PureK) {β γ : Type} (φ : β → Option γ) (d : Oslices_IndexFunc__long_0 → Option β) (r : Sslices_IndexFunc__long_0 → Option β) (s : Sslices_IndexFunc__long_0) : Rslices_IndexFunc__long_0 K (fun o => (d o).bind φ) (fun s => (r s).bind φ) s = (Rslices_IndexFunc__long_0 K d r s).bind φ := by
  cases s <;> simp only [Rslices_IndexFunc__long_0, bind_optK, bind_br, bind_asInt, bind_asBool, bind_asStr, bind_asLst, bind_asAgg, bind_asTup, bind_asBig, bind_asErr, bind_none]
theorem outslices_IndexFunc__long_0 (o : Oslices_IndexFunc__long_0) : ∃ x e' h', ∀ {β : Type} (k : Ex → Env → Heap → Option β), Tslices_IndexFunc__long_0 k o = k x e' h' := by cases o <;> exact ⟨_, _, _, fun _ => rfl⟩
theorem okslices_IndexFunc__long_0 {K : PureK} (hX : Sound X) (hK : KOk X K) {lslices_IndexFunc__long_0 : Sslices_IndexFunc__long_0 → Option Oslices_IndexFunc__long_0} (hl : ∀ s o, lslices_IndexFunc__long_0 s = some o → ∃ m, fuelRec (Rslices_IndexFunc__long_0 K some) m s = some o) (β : Type) (e : Env) (h : Heap) (k : Ex → Env → Heap → Option β) (r : β) (hr : (Fslices_IndexFunc__long_0 lslices_IndexFunc__long_0).run e h k = some r) : ∃ x e' h', k x e' h' = some r ∧ CodeAt X (.loop (loopBody (X).P 28 0)) e h x e' h' := by
  obtain ⟨fn, c, hin⟩ := loopIn_of (X := X) (f := 28) (i := 0) (key := 2) (by kernel_rfl)
  simp only [Fslices_IndexFunc__long_0] at hr
  split at hr
  · rename_i hlen
    have hlen := Nat.eq_of_beq_eq_true hlen
    split at hr
    · rename_i q0 q1 q7 q8
      obtain ⟨o, ho, hr⟩ := optK_some hr
      refine tell_ok hX (KOk.congr (X := X) (Y := X) rfl rfl hK) hin (E := Eslices_IndexFunc__long_0) (H := Hslices_IndexFunc__long_0) (R := fun d r => Rslices_IndexFunc__long_0 K d r) (T := Tslices_IndexFunc__long_0) (ts := [(0, 1, 0), (1, 1, 0), (2, 1, 0)]) (len := 0) (cl := clslices_IndexFunc__long_0) (clo := closlices_IndexFunc__long_0) (roundslices_IndexFunc__long_0 K) (natslices_IndexFunc__long_0 K) outslices_IndexFunc__long_0 (hl _ _ ho) (cl0 := clslices_IndexFunc__long_0) (ts0 := []) ?_ rfl (by kernel_rfl) (by kernel_rfl) hr
      rw [clear_lit e 19 hlen, show clearEnv clslices_IndexFunc__long_0 ((List.range 19).map fun i => e.getD i .dead) = [e.getD 0 .dead, e.getD 1 .dead, .dead, .dead, .dead, .dead, .dead, e.getD 7 .dead, e.getD 8 .dead, .dead, .dead, .dead, .dead, .dead, .dead, .dead, .dead, .dead, .dead] from by kernel_rfl]; rw [q0, q1, q7, q8]
      kernel_rfl
    · cases hr
  · cases hr
noncomputable def Rslices_IndexFunc__long (K : PureK) (lslices_IndexFunc__long_0 : Sslices_IndexFunc__long_0 → Option Oslices_IndexFunc__long_0) (s0n : Bool) (s0 : List AV) : Option AV :=
  optK (lslices_IndexFunc__long_0 (Sslices_IndexFunc__long_0.s0 s0n s0 (((s0.length : Nat) : Int)) 0)) fun wo1 => Oslices_IndexFunc__long_0.k wo1
      (fun (t4_2 : Int) => some (iv t4_2))
      (some (iv (-1)))
theorem topslices_IndexFunc__long (K : PureK) (lslices_IndexFunc__long_0 : Sslices_IndexFunc__long_0 → Option Oslices_IndexFunc__long_0) (s0n : Bool) (s0 : List AV) : topK (addLp X 28 2 (Fslices_IndexFunc__long_0 lslices_IndexFunc__long_0)) K 0 f_slices_IndexFunc__long [(.lst 1 s0n s0), (.fn (.func 20) [] [])] = Rslices_IndexFunc__long K lslices_IndexFunc__long_0 s0n s0 := by kernel_rfl
theorem pcslices_IndexFunc__long {K : PureK} (hK : KOk X K) {lslices_IndexFunc__long_0 : Sslices_IndexFunc__long_0 → Option Oslices_IndexFunc__long_0} (hslices_IndexFunc__long_0 : ∀ s o, lslices_IndexFunc__long_0 s = some o → ∃ m, fuelRec (Rslices_IndexFunc__long_0 K some) m s = some o) {s0n : Bool} {s0 : List AV} {v : AV} (h : Rslices_IndexFunc__long K lslices_IndexFunc__long_0 s0n s0 = some v) : PureCall X f_slices_IndexFunc__long [(.lst 1 s0n s0), (.fn (.func 20) [] [])] v := by
  have hSo0 := soundX
  obtain ⟨_, _, hin0⟩ := loopIn_of (X := X) (f := 28) (i := 0) (key := 2) (by kernel_rfl)
  have hSo1 := sound_add hSo0 hin0 (okslices_IndexFunc__long_0 hSo0 hK hslices_IndexFunc__long_0)
  exact tell_top (X := X) (Y := (addLp X 28 2 (Fslices_IndexFunc__long_0 lslices_IndexFunc__long_0))) rfl rfl hSo1 hK ((topslices_IndexFunc__long K lslices_IndexFunc__long_0 s0n s0).trans h)

/-! 20: escheat/token.Right$1 -/
noncomputable def Rtoken_Right_1 (K : PureK) (s0 : ByteArray) : Option AV :=
  some (bv (decide (((s0.size : Nat) : Int) > 2000)))
theorem toptoken_Right_1 (K : PureK) (s0 : ByteArray) : topK X K 0 f_token_Right_1 [(.v (.string s0))] = Rtoken_Right_1 K s0 := by kernel_rfl
theorem pctoken_Right_1 {K : PureK} (hK : KOk X K) {s0 : ByteArray} {v : AV} (h : Rtoken_Right_1 K s0 = some v) : PureCall X f_token_Right_1 [(.v (.string s0))] v := by
  have hSo0 := soundX
  exact tell_top (X := X) (Y := X) rfl rfl hSo0 hK ((toptoken_Right_1 K s0).trans h)

/-! 22: slices.Equal[[]string,string] -/
inductive Sslices_Equal_string_string_0 where
  | s0 (s10n : Bool) (s10 : List AV) (s21n : Bool) (s21 : List AV) (t12 : Int) (t13 : Int)

inductive Oslices_Equal_string_string_0 where
  | x0 (t4 : Bool)
  | x1

def Oslices_Equal_string_string_0.k {β : Type} (o : Oslices_Equal_string_string_0) (c0 : Bool → Option β) (c1 : Option β) : Option β := match o with
  | .x0 t4 => c0 t4
  | .x1 => c1

def Eslices_Equal_string_string_0 : Sslices_Equal_string_string_0 → Env
  | .s0 s10n s10 s21n s21 t12 t13 => [(.lst 1 s10n s10), (.lst 1 s21n s21), .dead, .dead, .dead, .dead, .dead, .dead, .dead, .dead, .dead, .dead, (.v (.int .i64 t12)), (.v (.int .i64 t13)), .dead, .dead, .dead, .dead, .dead, .dead, .dead, .dead, .dead, .dead, .dead, .dead]

def Hslices_Equal_string_string_0 : Sslices_Equal_string_string_0 → Heap
  | .s0 s10n s10 s21n s21 t12 t13 => []

def Tslices_Equal_string_string_0 {β : Type} (k : Ex → Env → Heap → Option β) (o : Oslices_Equal_string_string_0) : Option β := Oslices_Equal_string_string_0.k o (fun t4 => k .ret [.dead, .dead, .dead, .dead, (.v (.bool t4)), .dead, .dead, .dead, .dead, .dead, .dead, .dead, .dead, .dead, .dead, .dead, .dead, .dead, .dead, .dead, .dead, .dead, .dead, .dead, .dead, .dead] []) (k (.exit 0) [.dead, .dead, .dead, .dead, .dead, .dead, .dead, .dead, .dead, .dead, .dead, .dead, .dead, .dead, .dead, .dead, .dead, .dead, .dead, .dead, .dead, .dead, .dead, .dead, .dead, .dead] [])

def Fslices_Equal_string_string_0 (lslices_Equal_string_string_0 : Sslices_Equal_string_string_0 → Option Oslices_Equal_string_string_0) : LoopF := ⟨fun e h k => match Nat.beq e.length 26 with
  | true => (match e.getD 0 .dead, e.getD 1 .dead, e.getD 12 .dead, e.getD 13 .dead, h with
    | (.lst 1 s10n s10), (.lst 1 s21n s21), (.v (.int .i64 t12)), (.v (.int .i64 t13)), [] => optK (lslices_Equal_string_string_0 (.s0 s10n s10 s21n s21 t12 t13)) (Tslices_Equal_string_string_0 k)
    | _, _, _, _, _ => none)
  | false => none⟩

def clslices_Equal_string_string_0 : List Tmp := [2, 3, 4, 5, 6, 7, 8, 9, 10, 11, 14, 15, 16, 17, 18, 19, 20, 21, 22, 23, 24, 25]
def closlices_Equal_string_string_0 : List Tmp := [0, 1, 2, 3, 5, 6, 7, 8, 9, 10, 11, 12, 13, 14, 15, 16, 17, 18, 19, 20, 21, 22, 23, 24, 25]

noncomputable def Rslices_Equal_string_string_0 {β : Type} (K : PureK) (d : Oslices_Equal_string_string_0 → Option β) (r : Sslices_Equal_string_string_0 → Option β) : Sslices_Equal_string_string_0 → Option β
  | .s0 s10n s10 s21n s21 t12 t13 =>
    br (decide (t13 < t12))
      (br (decide (0 ≤ t13))
        (br (decide (t13 < ((s10.length : Nat) : Int)))
          (optK s10[t13.toNat]? fun wv1 =>
          Ab.asStr wv1 fun ws2 =>
          br (decide (0 ≤ t13))
            (br (decide (t13 < ((s21.length : Nat) : Int)))
              (optK s21[t13.toNat]? fun wv3 =>
              Ab.asStr wv3 fun ws4 =>
              br (!strEq ws2 ws4)
                (d (.x0 false))
                (r (.s0 s10n s10 s21n s21 t12 (w64 (t13 + 1)))))
              (none))
            (none))
          (none))
        (none))
      (d (.x1))
theorem roundslices_Equal_string_string_0 (K : PureK) {β : Type} (r : Env → Heap → Option β) (k : Ex → Env → Heap → Option β) (s : Sslices_Equal_string_string_0) : tellOne X K 0 22 0 [(0, 1, 0), (1, 1, 0), (2, 1, 0)] 0 clslices_Equal_string_string_0 closlices_Equal_string_string_0 r k (Eslices_Equal_string_string_0 s) (Hslices_Equal_string_string_0 s) = Rslices_Equal_string_string_0 K (Tslices_Equal_string_string_0 k) (fun s => r (Eslices_Equal_string_string_0 s) (Hslices_Equal_string_string_0 s)) s := by
  cases s <;> kernel_rfl
theorem Oslices_Equal_string_string_0.bind_k {β γ : Type} (o : Oslices_Equal_string_string_0) (c0 : Bool → Option β) (c1 : Option β) (φ : β → Option γ) : (Oslices_Equal_string_string_0.k o c0 c1).bind φ = Oslices_Equal_string_string_0.k o (fun t4 => (c0 t4).bind φ) (c1.bind φ) := by cases o <;> rfl
theorem natslices_Equal_string_string_0 (K : PureK) {β γ : Type} (φ : β → Option γ) (d : Oslices_Equal_string_string_0 → Option β) (r : Sslices_Equal_string_string_0 → Option β) (s : Sslices_Equal_string_string_0) : Rslices_Equal_string_string_0 K (fun o => (d o).bind φ) (fun s => (r s).bind φ) s = (Rslices_Equal_string_string_0 K d r s).bind φ := by
  cases s <;> simp only [Rslices_Equal_string_string_0, bind_optK, bind_br, bind_asInt, bind_asBool, bind_asStr, bind_asLst, bind_asAgg, bind_asTup, bind_asBig, bind_asErr, bind_none]
theorem outslices_Equal_string_string_0 (o : Oslices_Equal_string_string_0) : ∃ x e' h', ∀ {β : Type} (k : Ex → Env → Heap → Option β), Tslices_Equal_string_string_0 k o = k x e' h' := by cases o <;> exact ⟨_, _, _, fun _ => rfl⟩
theorem okslices_Equal_string_string_0 {K : PureK} (hX : Sound X) (hK : KOk X K) {lslices_Equal_string_string_0 : Sslices_Equal_string_string_0 → Option Oslices_Equal_string_string_0} (hl : ∀ s o, lslices_Equal_string_string_0 s = some o → ∃ m, fuelRec (Rslices_Equal_string_string_0 K some) m s = some o) (β : Type) (e : Env) (h : Heap) (k : Ex → Env → Heap → Option β) (r : β) (hr : (Fslices_Equal_string_string_0 lslices_Equal_string_string_0).run e h k = some r) : ∃ x e' h', k x e' h' = some r ∧ CodeAt X (.loop (loopBody (X).P 22 0)) e h x e' h' := by
  obtain ⟨fn, c, hin⟩ := loopIn_of (X := X) (f := 22) (i := 0) (key := 4) (by kernel_rfl)
  simp only [Fslices_Equal_string_string_0] at hr
  split at hr
  · rename_i hlen
    have hlen := Nat.eq_of_beq_eq_true hlen
    split at hr
    · rename_i q0 q1 q12 q13
      obtain ⟨o, ho, hr⟩ := optK_some hr
      refine tell_ok hX (KOk.congr (X := X) (Y := X) rfl rfl hK) hin (E := Eslices_Equal_string_string_0) (H := Hslices_Equal_string_string_0) (R := fun d r => Rslices_Equal_string_string_0 K d r) (T := Tslices_Equal_string_string_0) (ts := [(0, 1, 0), (1, 1, 0), (2, 1, 0)]) (len := 0) (cl := clslices_Equal_string_string_0) (clo := closlices_Equal_string_string_0) (roundslices_Equal_string_string_0 K) (natslices_Equal_string_string_0 K) outslices_Equal_string_string_0 (hl _ _ ho) (cl0 := clslices_Equal_string_string_0) (ts0 := []) ?_ rfl (by kernel_rfl) (by kernel_rfl) hr
      rw [clear_lit e 26 hlen, show clearEnv clslices_Equal_string_string_0 ((List.range 26).map fun i => e.getD i .dead) = [e.getD 0 .dead, e.getD 1 .dead, .dead, .dead, .dead, .dead, .dead, .dead, .dead, .dead, .dead, .dead, e.getD 12 .dead, e.getD 13 .dead, .dead, .dead, .dead, .dead, .dead, .dead, .dead, .dead, .dead, .dead, .dead, .dead] from by kernel_rfl]; rw [q0, q1, q12, q13]
      kernel_rfl
    · cases hr
  · cases hr
noncomputable def Rslices_Equal_string_string (K : PureK) (lslices_Equal_string_string_0 : Sslices_Equal_string_string_0 → Option Oslices_Equal_string_string_0) (s10n : Bool) (s10 : List AV) (s21n : Bool) (s21 : List AV) : Option AV :=
  br (((s10.length : Nat) : Int) != ((s21.length : Nat) : Int))
      (some (bv false))
      (optK (lslices_Equal_string_string_0 (Sslices_Equal_string_string_0.s0 s10n s10 s21n s21 (((s10.length : Nat) : Int)) 0)) fun wo1 => Oslices_Equal_string_string_0.k wo1
        (fun (t4_2 : Bool) => some (bv t4_2))
        (some (bv true)))
theorem topslices_Equal_string_string (K : PureK) (lslices_Equal_string_string_0 : Sslices_Equal_string_string_0 → Option Oslices_Equal_string_string_0) (s10n : Bool) (s10 : List AV) (s21n : Bool) (s21 : List AV) : topK (addLp X 22 4 (Fslices_Equal_string_string_0 lslices_Equal_string_string_0)) K 0 f_slices_Equal_string_string [(.lst 1 s10n s10), (.lst 1 s21n s21)] = Rslices_Equal_string_string K lslices_Equal_string_string_0 s10n s10 s21n s21 := by kernel_rfl
theorem pcslices_Equal_string_string {K : PureK} (hK : KOk X K) {lslices_Equal_string_string_0 : Sslices_Equal_string_string_0 → Option Oslices_Equal_string_string_0} (hslices_Equal_string_string_0 : ∀ s o, lslices_Equal_string_string_0 s = some o → ∃ m, fuelRec (Rslices_Equal_string_string_0 K some) m s = some o) {s10n : Bool} {s10 : List AV} {s21n : Bool} {s21 : List AV} {v : AV} (h : Rslices_Equal_string_string K lslices_Equal_string_string_0 s10n s10 s21n s21 = some v) : PureCall X f_slices_Equal_string_string [(.lst 1 s10n s10), (.lst 1 s21n s21)] v := by
  have hSo0 := soundX
  obtain ⟨_, _, hin0⟩ := loopIn_of (X := X) (f := 22) (i := 0) (key := 4) (by kernel_rfl)
  have hSo1 := sound_add hSo0 hin0 (okslices_Equal_string_string_0 hSo0 hK hslices_Equal_string_string_0)
  exact tell_top (X := X) (Y := (addLp X 22 4 (Fslices_Equal_string_string_0 lslices_Equal_string_string_0))) rfl rfl hSo1 hK ((topslices_Equal_string_string K lslices_Equal_string_string_0 s10n s10 s21n s21).trans h)

/-! 18: escheat/escheatref10.Texts -/
inductive Sref10_Texts_0 where
  | s0 (a0n : Bool) (a0 : List AV) (b1n : Bool) (b1 : List AV) (i5 : Int)

inductive Oref10_Texts_0 where
  | x0 (t4 : Bool)
  | x1

def Oref10_Texts_0.k {β : Type} (o : Oref10_Texts_0) (c0 : Bool → Option β) (c1 : Option β) : Option β := match o with
  | .x0 t4 => c0 t4
  | .x1 => c1

def Eref10_Texts_0 : Sref10_Texts_0 → Env
  | .s0 a0n a0 b1n b1 i5 => [(.lst 1 a0n a0), (.lst 1 b1n b1), .dead, .dead, .dead, (.v (.int .i64 i5)), .dead, .dead, .dead, .dead, .dead, .dead, .dead, .dead, .dead, .dead, .dead, .dead, .dead, .dead, .dead, .dead, .dead, .dead, .dead, .dead]

def Href10_Texts_0 : Sref10_Texts_0 → Heap
  | .s0 a0n a0 b1n b1 i5 => []

def Tref10_Texts_0 {β : Type} (k : Ex → Env → Heap → Option β) (o : Oref10_Texts_0) : Option β := Oref10_Texts_0.k o (fun t4 => k .ret [.dead, .dead, .dead, .dead, (.v (.bool t4)), .dead, .dead, .dead, .dead, .dead, .dead, .dead, .dead, .dead, .dead, .dead, .dead, .dead, .dead, .dead, .dead, .dead, .dead, .dead, .dead, .dead] []) (k (.exit 0) [.dead, .dead, .dead, .dead, .dead, .dead, .dead, .dead, .dead, .dead, .dead, .dead, .dead, .dead, .dead, .dead, .dead, .dead, .dead, .dead, .dead, .dead, .dead, .dead, .dead, .dead] [])

def Fref10_Texts_0 (lref10_Texts_0 : Sref10_Texts_0 → Option Oref10_Texts_0) : LoopF := ⟨fun e h k => match Nat.beq e.length 26 with
  | true => (match e.getD 0 .dead, e.getD 1 .dead, e.getD 5 .dead, h with
    | (.lst 1 a0n a0), (.lst 1 b1n b1), (.v (.int .i64 i5)), [] => optK (lref10_Texts_0 (.s0 a0n a0 b1n b1 i5)) (Tref10_Texts_0 k)
    | _, _, _, _ => none)
  | false => none⟩

def clref10_Texts_0 : List Tmp := [2, 3, 4, 6, 7, 8, 9, 10, 11, 12, 13, 14, 15, 16, 17, 18, 19, 20, 21, 22, 23, 24, 25]
def cloref10_Texts_0 : List Tmp := [0, 1, 2, 3, 5, 6, 7, 8, 9, 10, 11, 12, 13, 14, 15, 16, 17, 18, 19, 20, 21, 22, 23, 24, 25]

noncomputable def Rref10_Texts_0 {β : Type} (K : PureK) (d : Oref10_Texts_0 → Option β) (r : Sref10_Texts_0 → Option β) : Sref10_Texts_0 → Option β
  | .s0 a0n a0 b1n b1 i5 =>
    br (decide (i5 < ((a0.length : Nat) : Int)))
      (br (decide (0 ≤ i5))
        (br (decide (i5 < ((a0.length : Nat) : Int)))
          (optK a0[i5.toNat]? fun wv1 =>
          Ab.asStr wv1 fun ws2 =>
          br (decide (0 ≤ i5))
            (br (decide (i5 < ((b1.length : Nat) : Int)))
              (optK b1[i5.toNat]? fun wv3 =>
              Ab.asStr wv3 fun ws4 =>
              br (!strEq ws2 ws4)
                (d (.x0 false))
                (r (.s0 a0n a0 b1n b1 (w64 (i5 + 1)))))
              (none))
            (none))
          (none))
        (none))
      (d (.x1))
theorem roundref10_Texts_0 (K : PureK) {β : Type} (r : Env → Heap → Option β) (k : Ex → Env → Heap → Option β) (s : Sref10_Texts_0) : tellOne X K 0 18 0 [(0, 1, 0), (1, 1, 0), (2, 1, 0)] 0 clref10_Texts_0 cloref10_Texts_0 r k (Eref10_Texts_0 s) (Href10_Texts_0 s) = Rref10_Texts_0 K (Tref10_Texts_0 k) (fun s => r (Eref10_Texts_0 s) (Href10_Texts_0 s)) s := by
  cases s <;> kernel_rfl
theorem Oref10_Texts_0.bind_k {β γ : Type} (o : Oref10_Texts_0) (c0 : Bool → Option β) (c1 : Option β) (φ : β → Option γ) : (Oref10_Texts_0.k o c0 c1).bind φ = Oref10_Texts_0.k o (fun t4 => (c0 t4).bind φ) (c1.bind φ) := by cases o <;> rfl
theorem natref10_Texts_0 (K : PureK) {β γ : Type} (φ : β → Option γ) (d : Oref10_Texts_0 → Option β) (r : Sref10_Texts_0 → Option β) (s : Sref10_Texts_0) : Rref10_Texts_0 K (fun o => (d o).bind φ) (fun s => (r s).bind φ) s = (Rref10_Texts_0 K d r s).bind φ := by
  cases s <;> simp only [Rref10_Texts_0, bind_optK, bind_br, bind_asInt, bind_asBool, bind_asStr, bind_asLst, bind_asAgg, bind_asTup, bind_asBig, bind_asErr, bind_none]
theorem outref10_Texts_0 (o : Oref10_Texts_0) : ∃ x e' h', ∀ {β : Type} (k : Ex → Env → Heap → Option β), Tref10_Texts_0 k o = k x e' h' := by cases o <;> exact ⟨_, _, _, fun _ => rfl⟩
theorem okref10_Texts_0 {K : PureK} (hX : Sound X) (hK : KOk X K) {lref10_Texts_0 : Sref10_Texts_0 → Option Oref10_Texts_0} (hl : ∀ s o, lref10_Texts_0 s = some o → ∃ m, fuelRec (Rref10_Texts_0 K some) m s = some o) (β : Type) (e : Env) (h : Heap) (k : Ex → Env → Heap → Option β) (r : β) (hr : (Fref10_Texts_0 lref10_Texts_0).run e h k = some r) : ∃ x e' h', k x e' h' = some r ∧ CodeAt X (.loop (loopBody (X).P 18 0)) e h x e' h' := by
  obtain ⟨fn, c, hin⟩ := loopIn_of (X := X) (f := 18) (i := 0) (key := 4) (by kernel_rfl)
  simp only [Fref10_Texts_0] at hr
  split at hr
  · rename_i hlen
    have hlen := Nat.eq_of_beq_eq_true hlen
    split at hr
    · rename_i q0 q1 q5
      obtain ⟨o, ho, hr⟩ := optK_some hr
      refine tell_ok hX (KOk.congr (X := X) (Y := X) rfl rfl hK) hin (E := Eref10_Texts_0) (H := Href10_Texts_0) (R := fun d r => Rref10_Texts_0 K d r) (T := Tref10_Texts_0) (ts := [(0, 1, 0), (1, 1, 0), (2, 1, 0)]) (len := 0) (cl := clref10_Texts_0) (clo := cloref10_Texts_0) (roundref10_Texts_0 K) (natref10_Texts_0 K) outref10_Texts_0 (hl _ _ ho) (cl0 := clref10_Texts_0) (ts0 := []) ?_ rfl (by kernel_rfl) (by kernel_rfl) hr
      rw [clear_lit e 26 hlen, show clearEnv clref10_Texts_0 ((List.range 26).map fun i => e.getD i .dead) = [e.getD 0 .dead, e.getD 1 .dead, .dead, .dead, .dead, e.getD 5 .dead, .dead, .dead, .dead, .dead, .dead, .dead, .dead, .dead, .dead, .dead, .dead, .dead, .dead, .dead, .dead, .dead, .dead, .dead, .dead, .dead] from by kernel_rfl]; rw [q0, q1, q5]
      kernel_rfl
    · cases hr
  · cases hr
noncomputable def Rref10_Texts (K : PureK) (lref10_Texts_0 : Sref10_Texts_0 → Option Oref10_Texts_0) (a0n : Bool) (a0 : List AV) (b1n : Bool) (b1 : List AV) : Option AV :=
  br (((a0.length : Nat) : Int) != ((b1.length : Nat) : Int))
      (some (bv false))
      (optK (lref10_Texts_0 (Sref10_Texts_0.s0 a0n a0 b1n b1 0)) fun wo1 => Oref10_Texts_0.k wo1
        (fun (t4_2 : Bool) => some (bv t4_2))
        (some (bv true)))
theorem topref10_Texts (K : PureK) (lref10_Texts_0 : Sref10_Texts_0 → Option Oref10_Texts_0) (a0n : Bool) (a0 : List AV) (b1n : Bool) (b1 : List AV) : topK (addLp X 18 4 (Fref10_Texts_0 lref10_Texts_0)) K 0 f_ref10_Texts [(.lst 1 a0n a0), (.lst 1 b1n b1)] = Rref10_Texts K lref10_Texts_0 a0n a0 b1n b1 := by kernel_rfl
theorem pcref10_Texts {K : PureK} (hK : KOk X K) {lref10_Texts_0 : Sref10_Texts_0 → Option Oref10_Texts_0} (href10_Texts_0 : ∀ s o, lref10_Texts_0 s = some o → ∃ m, fuelRec (Rref10_Texts_0 K some) m s = some o) {a0n : Bool} {a0 : List AV} {b1n : Bool} {b1 : List AV} {v : AV} (h : Rref10_Texts K lref10_Texts_0 a0n a0 b1n b1 = some v) : PureCall X f_ref10_Texts [(.lst 1 a0n a0), (.lst 1 b1n b1)] v := by
  have hSo0 := soundX
  obtain ⟨_, _, hin0⟩ := loopIn_of (X := X) (f := 18) (i := 0) (key := 4) (by kernel_rfl)
  have hSo1 := sound_add hSo0 hin0 (okref10_Texts_0 hSo0 hK href10_Texts_0)
  exact tell_top (X := X) (Y := (addLp X 18 4 (Fref10_Texts_0 lref10_Texts_0))) rfl rfl hSo1 hK ((topref10_Texts K lref10_Texts_0 a0n a0 b1n b1).trans h)

end Go.Proofs.YtphbfkncimifoaaDoor
