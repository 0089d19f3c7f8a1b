import Derived.Test.YtckbjhmiopjlkaaDoorCtx
set_option maxRecDepth 100000
set_option linter.unusedVariables false
set_option linter.unusedSimpArgs false
namespace Go.Proofs.YtckbjhmiopjlkaaDoor
open Go Go.Ab
/-! 20: escheat/uids.Print -/
inductive Suids_Print_0 where
  | s0 (t11n : Bool) (t11 : List AV) (t12 : Int) (t13 : Int)
  | s1 (t11n : Bool) (t11 : List AV) (t12 : Int) (t13 : Int) (obj0_0_0 : Int) (obj0_0_1 : Int) (obj1 : List AV)

inductive Ouids_Print_0 where
  | x0
  | x1 (obj0_0_0 : Int) (obj0_0_1 : Int) (obj1 : List AV)

def Ouids_Print_0.k {β : Type} (o : Ouids_Print_0) (c0 : Option β) (c1 : Int → Int → (List AV) → Option β) : Option β := match o with
  | .x0 => c0
  | .x1 obj0_0_0 obj0_0_1 obj1 => c1 obj0_0_0 obj0_0_1 obj1

def Euids_Print_0 : Suids_Print_0 → Env
  | .s0 t11n t11 t12 t13 => [.dead, .dead, .dead, .dead, (.lst 1 true []), .dead, .dead, .dead, .dead, .dead, .dead, (.lst 2 t11n t11), (.v (.int .i64 t12)), (.v (.int .i64 t13)), .dead, .dead, .dead, .dead, .dead, .dead, .dead, .dead, .dead, .dead, .dead, .dead, .dead, .dead, .dead, .dead, .dead, .dead, .dead, .dead, .dead, .dead, .dead, .dead]
  | .s1 t11n t11 t12 t13 obj0_0_0 obj0_0_1 obj1 => [.dead, .dead, .dead, .dead, (.own 1 1 0 none), .dead, .dead, .dead, .dead, .dead, .dead, (.lst 2 t11n t11), (.v (.int .i64 t12)), (.v (.int .i64 t13)), .dead, .dead, .dead, .dead, .dead, .dead, .dead, .dead, .dead, .dead, .dead, .dead, .dead, .dead, .dead, .dead, .dead, .dead, .dead, .dead, .dead, .dead, .dead, .dead]

def Huids_Print_0 : Suids_Print_0 → Heap
  | .s0 t11n t11 t12 t13 => []
  | .s1 t11n t11 t12 t13 obj0_0_0 obj0_0_1 obj1 => [⟨[(.agg [(.v (.int .i64 obj0_0_0)), (.v (.int .i64 obj0_0_1))])], 1, 0, true, true, 25, 2, none⟩, ⟨obj1, 1, 0, true, false, 9, 1, none⟩]

def Tuids_Print_0 {β : Type} (k : Ex → Env → Heap → Option β) (o : Ouids_Print_0) : Option β := Ouids_Print_0.k o (k (.exit 0) [.dead, .dead, .dead, .dead, (.lst 1 true []), .dead, .dead, .dead, .dead, .dead, .dead, .dead, .dead, .dead, .dead, .dead, .dead, .dead, .dead, .dead, .dead, .dead, .dead, .dead, .dead, .dead, .dead, .dead, .dead, .dead, .dead, .dead, .dead, .dead, .dead, .dead, .dead, .dead] []) (fun obj0_0_0 obj0_0_1 obj1 => k (.exit 0) [.dead, .dead, .dead, .dead, (.own 1 1 0 none), .dead, .dead, .dead, .dead, .dead, .dead, .dead, .dead, .dead, .dead, .dead, .dead, .dead, .dead, .dead, .dead, .dead, .dead, .dead, .dead, .dead, .dead, .dead, .dead, .dead, .dead, .dead, .dead, .dead, .dead, .dead, .dead, .dead] [⟨[(.agg [(.v (.int .i64 obj0_0_0)), (.v (.int .i64 obj0_0_1))])], 1, 0, true, true, 25, 2, none⟩, ⟨obj1, 1, 0, true, false, 9, 1, none⟩])

def Fuids_Print_0 (luids_Print_0 : Suids_Print_0 → Option Ouids_Print_0) : LoopF := ⟨fun e h k => match Nat.beq e.length 38 with
  | true => (match e.getD 4 .dead, e.getD 11 .dead, e.getD 12 .dead, e.getD 13 .dead, h with
    | (.lst 1 true []), (.lst 2 t11n t11), (.v (.int .i64 t12)), (.v (.int .i64 t13)), [] => optK (luids_Print_0 (.s0 t11n t11 t12 t13)) (Tuids_Print_0 k)
    | _, _, _, _, _ => none)
  | false => none⟩

def cluids_Print_0 : List Tmp := [0, 1, 2, 3, 5, 6, 7, 8, 9, 10, 14, 15, 16, 17, 18, 19, 20, 21, 22, 23, 24, 25, 26, 27, 28, 29, 30, 31, 32, 33, 34, 35, 36, 37]
def clouids_Print_0 : List Tmp := [0, 1, 2, 3, 5, 6, 7, 8, 9, 10, 11, 12, 13, 14, 15, 16, 17, 18, 19, 20, 21, 22, 23, 24, 25, 26, 27, 28, 29, 30, 31, 32, 33, 34, 35, 36, 37]

noncomputable def Ruids_Print_0 {β : Type} (K : PureK) (d : Ouids_Print_0 → Option β) (r : Suids_Print_0 → Option β) : Suids_Print_0 → Option β
  | .s0 t11n t11 t12 t13 =>
    br (decide (t13 < t12))
      (br (decide (0 ≤ t13))
        (br (decide (t13 < ((t11.length : Nat) : Int)))
          (optK t11[t13.toNat]? fun wv1 =>
          Ab.asAgg wv1 2 fun wg2 =>
          Ab.asInt (wg2 0) .i64 fun wn3 =>
          Ab.asInt (wg2 1) .i64 fun wn4 =>
          optK (K f_uids_end [iv wn3]) fun wv5 =>
          Ab.asStr wv5 fun ws6 =>
          br (wn4 != wn3)
            (optK (K f_uids_end [iv wn4]) fun wv7 =>
            Ab.asStr wv7 fun ws8 =>
            br ((1 + ws8.size).ble maxStr)
              (br ((ws6.size + (({ data := #[58] } : ByteArray) ++ ws8).size).ble maxStr)
                (r (.s1 t11n t11 t12 (w64 (t13 + 1)) wn3 wn4 [sv (ws6 ++ (({ data := #[58] } : ByteArray) ++ ws8))]))
                (none))
              (none))
            (r (.s1 t11n t11 t12 (w64 (t13 + 1)) wn3 wn4 [sv ws6])))
          (none))
        (none))
      (d (.x0))
  | .s1 t11n t11 t12 t13 obj0_0_0 obj0_0_1 obj1 =>
    br (decide (t13 < t12))
      (br (decide (0 ≤ t13))
        (br (decide (t13 < ((t11.length : Nat) : Int)))
          (optK t11[t13.toNat]? fun wv9 =>
          Ab.asAgg wv9 2 fun wg10 =>
          Ab.asInt (wg10 0) .i64 fun wn11 =>
          Ab.asInt (wg10 1) .i64 fun wn12 =>
          optK (K f_uids_end [iv wn11]) fun wv13 =>
          Ab.asStr wv13 fun ws14 =>
          br (wn12 != wn11)
            (optK (K f_uids_end [iv wn12]) fun wv15 =>
            Ab.asStr wv15 fun ws16 =>
            br ((1 + ws16.size).ble maxStr)
              (br ((ws14.size + (({ data := #[58] } : ByteArray) ++ ws16).size).ble maxStr)
                (br (lenOk (obj1.length + [sv (ws14 ++ (({ data := #[58] } : ByteArray) ++ ws16))].length) 16 && lenOk (obj1.length + [sv (ws14 ++ (({ data := #[58] } : ByteArray) ++ ws16))].length) 1)
                  (r (.s1 t11n t11 t12 (w64 (t13 + 1)) obj0_0_0 obj0_0_1 (obj1 ++ [sv (ws14 ++ (({ data := #[58] } : ByteArray) ++ ws16))])))
                  (none))
                (none))
              (none))
            (br (lenOk (obj1.length + [sv ws14].length) 16 && lenOk (obj1.length + [sv ws14].length) 1)
              (r (.s1 t11n t11 t12 (w64 (t13 + 1)) obj0_0_0 obj0_0_1 (obj1 ++ [sv ws14])))
              (none)))
          (none))
        (none))
      (d (.x1 obj0_0_0 obj0_0_1 obj1))
theorem rounduids_Print_0 (K : PureK) {β : Type} (r : Env → Heap → Option β) (k : Ex → Env → Heap → Option β) (s : Suids_Print_0) : tellOne X K 0 20 0 [(0, 1, 0), (1, 1, 0), (2, 1, 0)] 0 cluids_Print_0 clouids_Print_0 r k (Euids_Print_0 s) (Huids_Print_0 s) = Ruids_Print_0 K (Tuids_Print_0 k) (fun s => r (Euids_Print_0 s) (Huids_Print_0 s)) s := by
  cases s <;> kernel_rfl
theorem Ouids_Print_0.bind_k {β γ : Type} (o : Ouids_Print_0) (c0 : Option β) (c1 : Int → Int → (List AV) → Option β) (φ : β → Option γ) : (Ouids_Print_0.k o c0 c1).bind φ = Ouids_Print_0.k o (c0.bind φ) (fun obj0_0_0 obj0_0_1 obj1 => (c1 obj0_0_0 obj0_0_1 obj1).bind φ) := by cases o <;> rfl
theorem natuids_Print_0 (K : PureK) {β γ : Type} (φ : β → Option γ) (d : Ouids_Print_0 → Option β) (r : Suids_Print_0 → Option β) (s : Suids_Print_0) : Ruids_Print_0 K (fun o => (d o).bind φ) (fun s => (r s).bind φ) s = (Ruids_Print_0 K d r s).bind φ := by
  cases s <;> simp only [Ruids_Print_0, bind_optK, bind_br, bind_asInt, bind_asBool, bind_asStr, bind_asLst, bind_asAgg, bind_asTup, bind_asBig, bind_asErr, bind_none]
theorem outuids_Print_0 (o : Ouids_Print_0) : ∃ x e' h', ∀ {β : Type} (k : Ex → Env → Heap → Option β), Tuids_Print_0 k o = k x e' h' := by cases o <;> exact ⟨_, _, _, fun _ => rfl⟩
theorem okuids_Print_0 {K : PureK} (hX : Sound X) (hK : KOk X K) {luids_Print_0 : Suids_Print_0 → Option Ouids_Print_0} (hl : ∀ s o, luids_Print_0 s = some o → ∃ m, fuelRec (Ruids_Print_0 K some) m s = some o) (β : Type) (e : Env) (h : Heap) (k : Ex → Env → Heap → Option β) (r : β) (hr : (Fuids_Print_0 luids_Print_0).run e h k = some r) : ∃ x e' h', k x e' h' = some r ∧ CodeAt X (.loop (loopBody (X).P 20 0)) e h x e' h' := by
  obtain ⟨fn, c, hin⟩ := loopIn_of (X := X) (f := 20) (i := 0) (key := 5) (by kernel_rfl)
  simp only [Fuids_Print_0] at hr
  split at hr
  · rename_i hlen
    have hlen := Nat.eq_of_beq_eq_true hlen
    split at hr
    · rename_i q4 q11 q12 q13
      obtain ⟨o, ho, hr⟩ := optK_some hr
      refine tell_ok hX (KOk.congr (X := X) (Y := X) rfl rfl hK) hin (E := Euids_Print_0) (H := Huids_Print_0) (R := fun d r => Ruids_Print_0 K d r) (T := Tuids_Print_0) (ts := [(0, 1, 0), (1, 1, 0), (2, 1, 0)]) (len := 0) (cl := cluids_Print_0) (clo := clouids_Print_0) (rounduids_Print_0 K) (natuids_Print_0 K) outuids_Print_0 (hl _ _ ho) (cl0 := cluids_Print_0) (ts0 := []) ?_ rfl (by kernel_rfl) (by kernel_rfl) hr
      rw [clear_lit e 38 hlen, show clearEnv cluids_Print_0 ((List.range 38).map fun i => e.getD i .dead) = [.dead, .dead, .dead, .dead, e.getD 4 .dead, .dead, .dead, .dead, .dead, .dead, .dead, e.getD 11 .dead, e.getD 12 .dead, e.getD 13 .dead, .dead, .dead, .dead, .dead, .dead, .dead, .dead, .dead, .dead, .dead, .dead, .dead, .dead, .dead, .dead, .dead, .dead, .dead, .dead, .dead, .dead, .dead, .dead, .dead] from by kernel_rfl]; rw [q4, q11, q12, q13]
      kernel_rfl
    · cases hr
  · cases hr
noncomputable def Ruids_Print (K : PureK) (luids_Print_0 : Suids_Print_0 → Option Ouids_Print_0) (l0n : Bool) (l0 : List AV) : Option AV :=
  optK (K f_uids_Right [AV.lst 2 l0n l0]) fun wv3 =>
    Ab.asBool wv3 fun wb4 =>
    br (!wb4)
      (some (AV.tup [sv ({ data := #[] } : ByteArray), iv 1]))
      (optK (luids_Print_0 (Suids_Print_0.s0 l0n l0 (((l0.length : Nat) : Int)) 0)) fun wo5 => Ouids_Print_0.k wo5
        (optK (K f_strings_Join [AV.lst 1 true [], sv ({ data := #[44] } : ByteArray)]) fun wv7 =>
        Ab.asStr wv7 fun ws8 =>
        some (AV.tup [sv ws8, iv 0]))
        (fun (obj0_0_0_9 : Int) (obj0_0_1_9 : Int) (obj1_9 : List AV) => optK (K f_strings_Join [AV.lst 1 false obj1_9, sv ({ data := #[44] } : ByteArray)]) fun wv10 =>
        Ab.asStr wv10 fun ws11 =>
        some (AV.tup [sv ws11, iv 0])))
theorem topuids_Print (K : PureK) (luids_Print_0 : Suids_Print_0 → Option Ouids_Print_0) (l0n : Bool) (l0 : List AV) : topK (addLp X 20 5 (Fuids_Print_0 luids_Print_0)) K 0 f_uids_Print [(.lst 2 l0n l0)] = Ruids_Print K luids_Print_0 l0n l0 := by kernel_rfl
theorem pcuids_Print {K : PureK} (hK : KOk X K) {luids_Print_0 : Suids_Print_0 → Option Ouids_Print_0} (huids_Print_0 : ∀ s o, luids_Print_0 s = some o → ∃ m, fuelRec (Ruids_Print_0 K some) m s = some o) {l0n : Bool} {l0 : List AV} {v : AV} (h : Ruids_Print K luids_Print_0 l0n l0 = some v) : PureCall X f_uids_Print [(.lst 2 l0n l0)] v := by
  have hSo0 := soundX
  obtain ⟨_, _, hin0⟩ := loopIn_of (X := X) (f := 20) (i := 0) (key := 5) (by kernel_rfl)
  have hSo1 := sound_add hSo0 hin0 (okuids_Print_0 hSo0 hK huids_Print_0)
  exact tell_top (X := X) (Y := (addLp X 20 5 (Fuids_Print_0 luids_Print_0))) rfl rfl hSo1 hK ((topuids_Print K luids_Print_0 l0n l0).trans h)

/-! 35: escheat/uids.end -/
noncomputable def Ruids_end (K : PureK) (n0 : Int) : Option AV :=
  br (n0 == 0)
      (some (sv ({ data := #[42] } : ByteArray)))
      (optK (K f_strconv_Itoa [iv n0]) fun wv1 =>
      Ab.asStr wv1 fun ws2 =>
      some (sv ws2))
theorem topuids_end (K : PureK) (n0 : Int) : topK X K 0 f_uids_end [(.v (.int .i64 n0))] = Ruids_end K n0 := by kernel_rfl
theorem pcuids_end {K : PureK} (hK : KOk X K) {n0 : Int} {v : AV} (h : Ruids_end K n0 = some v) : PureCall X f_uids_end [(.v (.int .i64 n0))] v := by
  have hSo0 := soundX
  exact tell_top (X := X) (Y := X) rfl rfl hSo0 hK ((topuids_end K n0).trans h)

/-! 22: escheat/uids.Right -/
noncomputable def Ruids_Right (K : PureK) (l0n : Bool) (l0 : List AV) : Option AV :=
  optK (br (decide (((l0.length : Nat) : Int) ≥ 1))
        (br (decide (((l0.length : Nat) : Int) ≤ 60))
          (optK (K f_slices_ContainsFunc_api_Range_api_Range [AV.lst 2 l0n l0, AV.fn (Fn.func 38) [] []]) fun wv2 =>
          Ab.asBool wv2 fun wb3 =>
          some (bv !wb3))
          (some (bv false)))
        (some (bv false))) fun wv1 =>
    Ab.asBool wv1 fun wb4 =>
    some (bv wb4)
theorem topuids_Right (K : PureK) (l0n : Bool) (l0 : List AV) : topK X K 0 f_uids_Right [(.lst 2 l0n l0)] = Ruids_Right K l0n l0 := by kernel_rfl
theorem pcuids_Right {K : PureK} (hK : KOk X K) {l0n : Bool} {l0 : List AV} {v : AV} (h : Ruids_Right K l0n l0 = some v) : PureCall X f_uids_Right [(.lst 2 l0n l0)] v := by
  have hSo0 := soundX
  exact tell_top (X := X) (Y := X) rfl rfl hSo0 hK ((topuids_Right K l0n l0).trans h)

/-! 38: escheat/uids.Right$1 -/
noncomputable def Ruids_Right_1 (K : PureK) (r0_0 : Int) (r0_1 : Int) : Option AV :=
  optK (optK (K f_uids_may [iv r0_0]) fun wv2 =>
      Ab.asBool wv2 fun wb3 =>
      br (!wb3)
        (some (bv true))
        (optK (K f_uids_may [iv r0_1]) fun wv4 =>
        Ab.asBool wv4 fun wb5 =>
        some (bv !wb5))) fun wv1 =>
    Ab.asBool wv1 fun wb6 =>
    some (bv wb6)
theorem topuids_Right_1 (K : PureK) (r0_0 : Int) (r0_1 : Int) : topK X K 0 f_uids_Right_1 [(.agg [(.v (.int .i64 r0_0)), (.v (.int .i64 r0_1))])] = Ruids_Right_1 K r0_0 r0_1 := by kernel_rfl
theorem pcuids_Right_1 {K : PureK} (hK : KOk X K) {r0_0 : Int} {r0_1 : Int} {v : AV} (h : Ruids_Right_1 K r0_0 r0_1 = some v) : PureCall X f_uids_Right_1 [(.agg [(.v (.int .i64 r0_0)), (.v (.int .i64 r0_1))])] v := by
  have hSo0 := soundX
  exact tell_top (X := X) (Y := X) rfl rfl hSo0 hK ((topuids_Right_1 K r0_0 r0_1).trans h)

/-! 39: escheat/uids.may -/
noncomputable def Ruids_may (K : PureK) (n0 : Int) : Option AV :=
  optK (br (decide (n0 ≥ 0))
        (some (bv (decide (n0 ≤ 4294967295))))
        (some (bv false))) fun wv1 =>
    Ab.asBool wv1 fun wb2 =>
    some (bv wb2)
theorem topuids_may (K : PureK) (n0 : Int) : topK X K 0 f_uids_may [(.v (.int .i64 n0))] = Ruids_may K n0 := by kernel_rfl
theorem pcuids_may {K : PureK} (hK : KOk X K) {n0 : Int} {v : AV} (h : Ruids_may K n0 = some v) : PureCall X f_uids_may [(.v (.int .i64 n0))] v := by
  have hSo0 := soundX
  exact tell_top (X := X) (Y := X) rfl rfl hSo0 hK ((topuids_may K n0).trans h)

/-! 23: escheat/escheatref09.Right -/
inductive Sref09_Right_0 where
  | s0 (l0n : Bool) (l0 : List AV) (i3 : Int)

inductive Oref09_Right_0 where
  | x0 (l0n : Bool) (l0 : List AV) (t2 : Bool)
  | x1 (l0n : Bool) (l0 : List AV)

def Oref09_Right_0.k {β : Type} (o : Oref09_Right_0) (c0 : Bool → (List AV) → Bool → Option β) (c1 : Bool → (List AV) → Option β) : Option β := match o with
  | .x0 l0n l0 t2 => c0 l0n l0 t2
  | .x1 l0n l0 => c1 l0n l0

def Eref09_Right_0 : Sref09_Right_0 → Env
  | .s0 l0n l0 i3 => [(.lst 2 l0n l0), .dead, .dead, (.v (.int .i64 i3)), .dead, .dead, .dead, .dead, .dead, .dead, .dead, .dead, .dead, .dead, .dead, .dead, .dead, .dead, .dead, .dead, .dead, .dead, .dead, .dead, .dead, .dead, .dead, .dead, .dead, .dead, .dead, .dead, .dead, .dead, .dead, .dead, .dead, .dead, .dead, .dead, .dead, .dead, .dead, .dead, .dead, .dead, .dead, .dead, .dead, .dead, .dead, .dead]

def Href09_Right_0 : Sref09_Right_0 → Heap
  | .s0 l0n l0 i3 => []

def Tref09_Right_0 {β : Type} (k : Ex → Env → Heap → Option β) (o : Oref09_Right_0) : Option β := Oref09_Right_0.k o (fun l0n l0 t2 => k .ret [(.lst 2 l0n l0), .dead, (.v (.bool t2)), .dead, .dead, .dead, .dead, .dead, .dead, .dead, .dead, .dead, .dead, .dead, .dead, .dead, .dead, .dead, .dead, .dead, .dead, .dead, .dead, .dead, .dead, .dead, .dead, .dead, .dead, .dead, .dead, .dead, .dead, .dead, .dead, .dead, .dead, .dead, .dead, .dead, .dead, .dead, .dead, .dead, .dead, .dead, .dead, .dead, .dead, .dead, .dead, .dead] []) (fun l0n l0 => k (.exit 0) [(.lst 2 l0n l0), .dead, .dead, .dead, .dead, .dead, .dead, .dead, .dead, .dead, .dead, .dead, .dead, .dead, .dead, .dead, .dead, .dead, .dead, .dead, .dead, .dead, .dead, .dead, .dead, .dead, .dead, .dead, .dead, .dead, .dead, .dead, .dead, .dead, .dead, .dead, .dead, .dead, .dead, .dead, .dead, .dead, .dead, .dead, .dead, .dead, .dead, .dead, .dead, .dead, .dead, .dead] [])

def Fref09_Right_0 (lref09_Right_0 : Sref09_Right_0 → Option Oref09_Right_0) : LoopF := ⟨fun e h k => match Nat.beq e.length 52 with
  | true => (match e.getD 0 .dead, e.getD 3 .dead, h with
    | (.lst 2 l0n l0), (.v (.int .i64 i3)), [] => optK (lref09_Right_0 (.s0 l0n l0 i3)) (Tref09_Right_0 k)
    | _, _, _ => none)
  | false => none⟩

def clref09_Right_0 : List Tmp := [1, 2, 4, 5, 6, 7, 8, 9, 10, 11, 12, 13, 14, 15, 16, 17, 18, 19, 20, 21, 22, 23, 24, 25, 26, 27, 28, 29, 30, 31, 32, 33, 34, 35, 36, 37, 38, 39, 40, 41, 42, 43, 44, 45, 46, 47, 48, 49, 50, 51]
def cloref09_Right_0 : List Tmp := [1, 3, 4, 5, 6, 7, 8, 9, 10, 11, 12, 13, 14, 15, 16, 17, 18, 19, 20, 21, 22, 23, 24, 25, 26, 27, 28, 29, 30, 31, 32, 33, 34, 35, 36, 37, 38, 39, 40, 41, 42, 43, 44, 45, 46, 47, 48, 49, 50, 51]

noncomputable def Rref09_Right_0 {β : Type} (K : PureK) (d : Oref09_Right_0 → Option β) (r : Sref09_Right_0 → Option β) : Sref09_Right_0 → Option β
  | .s0 l0n l0 i3 =>
    optK (br (decide (i3 < ((l0.length : Nat) : Int)))
        (some (bv (decide (i3 < 61))))
        (some (bv false))) fun wv1 =>
    Ab.asBool wv1 fun wb2 =>
    br wb2
      (optK (br (decide (0 ≤ i3))
          (br (decide (i3 < ((l0.length : Nat) : Int)))
            (optK l0[i3.toNat]? fun wv4 =>
            Ab.asAgg wv4 2 fun wg5 =>
            Ab.asInt (wg5 0) .i64 fun wn6 =>
            Ab.asInt (wg5 1) .i64 fun wn7 =>
            br (decide (wn6 < 0))
              (some (bv true))
              (br (decide (0 ≤ i3))
                (br (decide (i3 < ((l0.length : Nat) : Int)))
                  (optK l0[i3.toNat]? fun wv8 =>
                  Ab.asAgg wv8 2 fun wg9 =>
                  Ab.asInt (wg9 0) .i64 fun wn10 =>
                  Ab.asInt (wg9 1) .i64 fun wn11 =>
                  br (decide (wn10 > 4294967295))
                    (some (bv true))
                    (br (decide (0 ≤ i3))
                      (br (decide (i3 < ((l0.length : Nat) : Int)))
                        (optK l0[i3.toNat]? fun wv12 =>
                        Ab.asAgg wv12 2 fun wg13 =>
                        Ab.asInt (wg13 0) .i64 fun wn14 =>
                        Ab.asInt (wg13 1) .i64 fun wn15 =>
                        br (decide (wn15 < 0))
                          (some (bv true))
                          (br (decide (0 ≤ i3))
                            (br (decide (i3 < ((l0.length : Nat) : Int)))
                              (optK l0[i3.toNat]? fun wv16 =>
                              Ab.asAgg wv16 2 fun wg17 =>
                              Ab.asInt (wg17 0) .i64 fun wn18 =>
                              Ab.asInt (wg17 1) .i64 fun wn19 =>
                              some (bv (decide (wn19 > 4294967295))))
                              (none))
                            (none)))
                        (none))
                      (none)))
                  (none))
                (none)))
            (none))
          (none)) fun wv3 =>
      Ab.asBool wv3 fun wb20 =>
      br wb20
        (d (.x0 l0n l0 false))
        (r (.s0 l0n l0 (w64 (i3 + 1)))))
      (d (.x1 l0n l0))
theorem roundref09_Right_0 (K : PureK) {β : Type} (r : Env → Heap → Option β) (k : Ex → Env → Heap → Option β) (s : Sref09_Right_0) : tellOne X K 0 23 0 [(0, 1, 0), (1, 1, 0), (2, 1, 0)] 0 clref09_Right_0 cloref09_Right_0 r k (Eref09_Right_0 s) (Href09_Right_0 s) = Rref09_Right_0 K (Tref09_Right_0 k) (fun s => r (Eref09_Right_0 s) (Href09_Right_0 s)) s := by
  cases s <;> kernel_rfl
theorem Oref09_Right_0.bind_k {β γ : Type} (o : Oref09_Right_0) (c0 : Bool → (List AV) → Bool → Option β) (c1 : Bool → (List AV) → Option β) (φ : β → Option γ) : (Oref09_Right_0.k o c0 c1).bind φ = Oref09_Right_0.k o (fun l0n l0 t2 => (c0 l0n l0 t2).bind φ) (fun l0n l0 => (c1 l0n l0).bind φ) := by cases o <;> rfl
theorem natref09_Right_0 (K : PureK) {β γ : Type} (φ : β → Option γ) (d : Oref09_Right_0 → Option β) (r : Sref09_Right_0 → Option β) (s : Sref09_Right_0) : Rref09_Right_0 K (fun o => (d o).bind φ) (fun s => (r s).bind φ) s = (Rref09_Right_0 K d r s).bind φ := by
  cases s <;> simp only [Rref09_Right_0, bind_optK, bind_br, bind_asInt, bind_asBool, bind_asStr, bind_asLst, bind_asAgg, bind_asTup, bind_asBig, bind_asErr, bind_none]
theorem outref09_Right_0 (o : Oref09_Right_0) : ∃ x e' h', ∀ {β : Type} (k : Ex → Env → Heap → Option β), Tref09_Right_0 k o = k x e' h' := by cases o <;> exact ⟨_, _, _, fun _ => rfl⟩
theorem okref09_Right_0 {K : PureK} (hX : Sound X) (hK : KOk X K) {lref09_Right_0 : Sref09_Right_0 → Option Oref09_Right_0} (hl : ∀ s o, lref09_Right_0 s = some o → ∃ m, fuelRec (Rref09_Right_0 K some) m s = some o) (β : Type) (e : Env) (h : Heap) (k : Ex → Env → Heap → Option β) (r : β) (hr : (Fref09_Right_0 lref09_Right_0).run e h k = some r) : ∃ x e' h', k x e' h' = some r ∧ CodeAt X (.loop (loopBody (X).P 23 0)) e h x e' h' := by
  obtain ⟨fn, c, hin⟩ := loopIn_of (X := X) (f := 23) (i := 0) (key := 2) (by kernel_rfl)
  simp only [Fref09_Right_0] at hr
  split at hr
  · rename_i hlen
    have hlen := Nat.eq_of_beq_eq_true hlen
    split at hr
    · rename_i q0 q3
      obtain ⟨o, ho, hr⟩ := optK_some hr
      refine tell_ok hX (KOk.congr (X := X) (Y := X) rfl rfl hK) hin (E := Eref09_Right_0) (H := Href09_Right_0) (R := fun d r => Rref09_Right_0 K d r) (T := Tref09_Right_0) (ts := [(0, 1, 0), (1, 1, 0), (2, 1, 0)]) (len := 0) (cl := clref09_Right_0) (clo := cloref09_Right_0) (roundref09_Right_0 K) (natref09_Right_0 K) outref09_Right_0 (hl _ _ ho) (cl0 := clref09_Right_0) (ts0 := []) ?_ rfl (by kernel_rfl) (by kernel_rfl) hr
      rw [clear_lit e 52 hlen, show clearEnv clref09_Right_0 ((List.range 52).map fun i => e.getD i .dead) = [e.getD 0 .dead, .dead, .dead, e.getD 3 .dead, .dead, .dead, .dead, .dead, .dead, .dead, .dead, .dead, .dead, .dead, .dead, .dead, .dead, .dead, .dead, .dead, .dead, .dead, .dead, .dead, .dead, .dead, .dead, .dead, .dead, .dead, .dead, .dead, .dead, .dead, .dead, .dead, .dead, .dead, .dead, .dead, .dead, .dead, .dead, .dead, .dead, .dead, .dead, .dead, .dead, .dead, .dead, .dead] from by kernel_rfl]; rw [q0, q3]
      kernel_rfl
    · cases hr
  · cases hr
noncomputable def Rref09_Right (K : PureK) (lref09_Right_0 : Sref09_Right_0 → Option Oref09_Right_0) (l0n : Bool) (l0 : List AV) : Option AV :=
  optK (lref09_Right_0 (Sref09_Right_0.s0 l0n l0 0)) fun wo1 => Oref09_Right_0.k wo1
      (fun (l0n_2 : Bool) (l0_2 : List AV) (t2_2 : Bool) => some (bv t2_2))
      (fun (l0n_3 : Bool) (l0_3 : List AV) => optK (br (decide (((l0_3.length : Nat) : Int) ≥ 1))
          (some (bv (decide (((l0_3.length : Nat) : Int) ≤ 60))))
          (some (bv false))) fun wv4 =>
      Ab.asBool wv4 fun wb5 =>
      some (bv wb5))
theorem topref09_Right (K : PureK) (lref09_Right_0 : Sref09_Right_0 → Option Oref09_Right_0) (l0n : Bool) (l0 : List AV) : topK (addLp X 23 2 (Fref09_Right_0 lref09_Right_0)) K 0 f_ref09_Right [(.lst 2 l0n l0)] = Rref09_Right K lref09_Right_0 l0n l0 := by kernel_rfl
theorem pcref09_Right {K : PureK} (hK : KOk X K) {lref09_Right_0 : Sref09_Right_0 → Option Oref09_Right_0} (href09_Right_0 : ∀ s o, lref09_Right_0 s = some o → ∃ m, fuelRec (Rref09_Right_0 K some) m s = some o) {l0n : Bool} {l0 : List AV} {v : AV} (h : Rref09_Right K lref09_Right_0 l0n l0 = some v) : PureCall X f_ref09_Right [(.lst 2 l0n l0)] v := by
  have hSo0 := soundX
  obtain ⟨_, _, hin0⟩ := loopIn_of (X := X) (f := 23) (i := 0) (key := 2) (by kernel_rfl)
  have hSo1 := sound_add hSo0 hin0 (okref09_Right_0 hSo0 hK href09_Right_0)
  exact tell_top (X := X) (Y := (addLp X 23 2 (Fref09_Right_0 lref09_Right_0))) rfl rfl hSo1 hK ((topref09_Right K lref09_Right_0 l0n l0).trans h)

/-! 21: escheat/escheatref09.Print -/
inductive Sref09_Print_0 where
  | s0 (l0n : Bool) (l0 : List AV) (s4 : ByteArray) (i5 : Int)

inductive Oref09_Print_0 where
  | x0 (s4 : ByteArray)

def Oref09_Print_0.k {β : Type} (o : Oref09_Print_0) (c0 : ByteArray → Option β) : Option β := match o with
  | .x0 s4 => c0 s4

def Eref09_Print_0 : Sref09_Print_0 → Env
  | .s0 l0n l0 s4 i5 => [(.lst 2 l0n l0), .dead, .dead, .dead, (.v (.string s4)), (.v (.int .i64 i5)), .dead, .dead, .dead, .dead, .dead, .dead, .dead, .dead, .dead, .dead, .dead, .dead, .dead, .dead, .dead, .dead, .dead, .dead, .dead, .dead, .dead, .dead, .dead, .dead, .dead, .dead, .dead, .dead, .dead, .dead, .dead, .dead, .dead, .dead, .dead, .dead, .dead, .dead, .dead, .dead, .dead, .dead]

def Href09_Print_0 : Sref09_Print_0 → Heap
  | .s0 l0n l0 s4 i5 => []

def Tref09_Print_0 {β : Type} (k : Ex → Env → Heap → Option β) (o : Oref09_Print_0) : Option β := Oref09_Print_0.k o (fun s4 => k (.exit 0) [.dead, .dead, .dead, .dead, (.v (.string s4)), .dead, .dead, .dead, .dead, .dead, .dead, .dead, .dead, .dead, .dead, .dead, .dead, .dead, .dead, .dead, .dead, .dead, .dead, .dead, .dead, .dead, .dead, .dead, .dead, .dead, .dead, .dead, .dead, .dead, .dead, .dead, .dead, .dead, .dead, .dead, .dead, .dead, .dead, .dead, .dead, .dead, .dead, .dead] [])

def Fref09_Print_0 (lref09_Print_0 : Sref09_Print_0 → Option Oref09_Print_0) : LoopF := ⟨fun e h k => match Nat.beq e.length 48 with
  | true => (match e.getD 0 .dead, e.getD 4 .dead, e.getD 5 .dead, h with
    | (.lst 2 l0n l0), (.v (.string s4)), (.v (.int .i64 i5)), [] => optK (lref09_Print_0 (.s0 l0n l0 s4 i5)) (Tref09_Print_0 k)
    | _, _, _, _ => none)
  | false => none⟩

def clref09_Print_0 : List Tmp := [1, 2, 3, 6, 7, 8, 9, 10, 11, 12, 13, 14, 15, 16, 17, 18, 19, 20, 21, 22, 23, 24, 25, 26, 27, 28, 29, 30, 31, 32, 33, 34, 35, 36, 37, 38, 39, 40, 41, 42, 43, 44, 45, 46, 47]
def cloref09_Print_0 : List Tmp := [0, 1, 2, 3, 5, 6, 7, 8, 9, 10, 11, 12, 13, 14, 15, 16, 17, 18, 19, 20, 21, 22, 23, 24, 25, 26, 27, 28, 29, 30, 31, 32, 33, 34, 35, 36, 37, 38, 39, 40, 41, 42, 43, 44, 45, 46, 47]

noncomputable def Rref09_Print_0 {β : Type} (K : PureK) (d : Oref09_Print_0 → Option β) (r : Sref09_Print_0 → Option β) : Sref09_Print_0 → Option β
  | .s0 l0n l0 s4 i5 =>
    br (decide (i5 < ((l0.length : Nat) : Int)))
      (br (decide (i5 > 0))
        (br ((s4.size + 1).ble maxStr)
          (br (decide (0 ≤ i5))
            (br (decide (i5 < ((l0.length : Nat) : Int)))
              (optK l0[i5.toNat]? fun wv1 =>
              Ab.asAgg wv1 2 fun wg2 =>
              Ab.asInt (wg2 0) .i64 fun wn3 =>
              Ab.asInt (wg2 1) .i64 fun wn4 =>
              optK (K f_ref09_end [iv wn3]) fun wv5 =>
              Ab.asStr wv5 fun ws6 =>
              br (((s4 ++ ({ data := #[44] } : ByteArray)).size + ws6.size).ble maxStr)
                (br (decide (0 ≤ i5))
                  (br (decide (i5 < ((l0.length : Nat) : Int)))
                    (optK l0[i5.toNat]? fun wv7 =>
                    Ab.asAgg wv7 2 fun wg8 =>
                    Ab.asInt (wg8 0) .i64 fun wn9 =>
                    Ab.asInt (wg8 1) .i64 fun wn10 =>
                    br (decide (0 ≤ i5))
                      (br (decide (i5 < ((l0.length : Nat) : Int)))
                        (optK l0[i5.toNat]? fun wv11 =>
                        Ab.asAgg wv11 2 fun wg12 =>
                        Ab.asInt (wg12 0) .i64 fun wn13 =>
                        Ab.asInt (wg12 1) .i64 fun wn14 =>
                        br (wn10 != wn13)
                          (br (((s4 ++ ({ data := #[44] } : ByteArray) ++ ws6).size + 1).ble maxStr)
                            (br (decide (0 ≤ i5))
                              (br (decide (i5 < ((l0.length : Nat) : Int)))
                                (optK l0[i5.toNat]? fun wv15 =>
                                Ab.asAgg wv15 2 fun wg16 =>
                                Ab.asInt (wg16 0) .i64 fun wn17 =>
                                Ab.asInt (wg16 1) .i64 fun wn18 =>
                                optK (K f_ref09_end [iv wn18]) fun wv19 =>
                                Ab.asStr wv19 fun ws20 =>
                                br (((s4 ++ ({ data := #[44] } : ByteArray) ++ ws6 ++ ({ data := #[58] } : ByteArray)).size + ws20.size).ble maxStr)
                                  (r (.s0 l0n l0 (s4 ++ ({ data := #[44] } : ByteArray) ++ ws6 ++ ({ data := #[58] } : ByteArray) ++ ws20) (w64 (i5 + 1))))
                                  (none))
                                (none))
                              (none))
                            (none))
                          (r (.s0 l0n l0 (s4 ++ ({ data := #[44] } : ByteArray) ++ ws6) (w64 (i5 + 1)))))
                        (none))
                      (none))
                    (none))
                  (none))
                (none))
              (none))
            (none))
          (none))
        (br (decide (0 ≤ i5))
          (br (decide (i5 < ((l0.length : Nat) : Int)))
            (optK l0[i5.toNat]? fun wv21 =>
            Ab.asAgg wv21 2 fun wg22 =>
            Ab.asInt (wg22 0) .i64 fun wn23 =>
            Ab.asInt (wg22 1) .i64 fun wn24 =>
            optK (K f_ref09_end [iv wn23]) fun wv25 =>
            Ab.asStr wv25 fun ws26 =>
            br ((s4.size + ws26.size).ble maxStr)
              (br (decide (0 ≤ i5))
                (br (decide (i5 < ((l0.length : Nat) : Int)))
                  (optK l0[i5.toNat]? fun wv27 =>
                  Ab.asAgg wv27 2 fun wg28 =>
                  Ab.asInt (wg28 0) .i64 fun wn29 =>
                  Ab.asInt (wg28 1) .i64 fun wn30 =>
                  br (decide (0 ≤ i5))
                    (br (decide (i5 < ((l0.length : Nat) : Int)))
                      (optK l0[i5.toNat]? fun wv31 =>
                      Ab.asAgg wv31 2 fun wg32 =>
                      Ab.asInt (wg32 0) .i64 fun wn33 =>
                      Ab.asInt (wg32 1) .i64 fun wn34 =>
                      br (wn30 != wn33)
                        (br (((s4 ++ ws26).size + 1).ble maxStr)
                          (br (decide (0 ≤ i5))
                            (br (decide (i5 < ((l0.length : Nat) : Int)))
                              (optK l0[i5.toNat]? fun wv35 =>
                              Ab.asAgg wv35 2 fun wg36 =>
                              Ab.asInt (wg36 0) .i64 fun wn37 =>
                              Ab.asInt (wg36 1) .i64 fun wn38 =>
                              optK (K f_ref09_end [iv wn38]) fun wv39 =>
                              Ab.asStr wv39 fun ws40 =>
                              br (((s4 ++ ws26 ++ ({ data := #[58] } : ByteArray)).size + ws40.size).ble maxStr)
                                (r (.s0 l0n l0 (s4 ++ ws26 ++ ({ data := #[58] } : ByteArray) ++ ws40) (w64 (i5 + 1))))
                                (none))
                              (none))
                            (none))
                          (none))
                        (r (.s0 l0n l0 (s4 ++ ws26) (w64 (i5 + 1)))))
                      (none))
                    (none))
                  (none))
                (none))
              (none))
            (none))
          (none)))
      (d (.x0 s4))
theorem roundref09_Print_0 (K : PureK) {β : Type} (r : Env → Heap → Option β) (k : Ex → Env → Heap → Option β) (s : Sref09_Print_0) : tellOne X K 0 21 0 [(0, 1, 0), (1, 1, 0), (2, 1, 0)] 0 clref09_Print_0 cloref09_Print_0 r k (Eref09_Print_0 s) (Href09_Print_0 s) = Rref09_Print_0 K (Tref09_Print_0 k) (fun s => r (Eref09_Print_0 s) (Href09_Print_0 s)) s := by
  cases s <;> kernel_rfl
theorem Oref09_Print_0.bind_k {β γ : Type} (o : Oref09_Print_0) (c0 : ByteArray → Option β) (φ : β → Option γ) : (Oref09_Print_0.k o c0).bind φ = Oref09_Print_0.k o (fun s4 => (c0 s4).bind φ) := by cases o <;> rfl
theorem natref09_Print_0 (K : PureK) {β γ : Type} (φ : β → Option γ) (d : Oref09_Print_0 → Option β) (r : Sref09_Print_0 → Option β) (s : Sref09_Print_0) : Rref09_Print_0 K (fun o => (d o).bind φ) (fun s => (r s).bind φ) s = (Rref09_Print_0 K d r s).bind φ := by
  cases s <;> simp only [Rref09_Print_0, bind_optK, bind_br, bind_asInt, bind_asBool, bind_asStr, bind_asLst, bind_asAgg, bind_asTup, bind_asBig, bind_asErr, bind_none]
theorem outref09_Print_0 (o : Oref09_Print_0) : ∃ x e' h', ∀ {β : Type} (k : Ex → Env → Heap → Option β), Tref09_Print_0 k o = k x e' h' := by cases o <;> exact ⟨_, _, _, fun _ => rfl⟩
theorem okref09_Print_0 {K : PureK} (hX : Sound X) (hK : KOk X K) {lref09_Print_0 : Sref09_Print_0 → Option Oref09_Print_0} (hl : ∀ s o, lref09_Print_0 s = some o → ∃ m, fuelRec (Rref09_Print_0 K some) m s = some o) (β : Type) (e : Env) (h : Heap) (k : Ex → Env → Heap → Option β) (r : β) (hr : (Fref09_Print_0 lref09_Print_0).run e h k = some r) : ∃ x e' h', k x e' h' = some r ∧ CodeAt X (.loop (loopBody (X).P 21 0)) e h x e' h' := by
  obtain ⟨fn, c, hin⟩ := loopIn_of (X := X) (f := 21) (i := 0) (key := 5) (by kernel_rfl)
  simp only [Fref09_Print_0] at hr
  split at hr
  · rename_i hlen
    have hlen := Nat.eq_of_beq_eq_true hlen
    split at hr
    · rename_i q0 q4 q5
      obtain ⟨o, ho, hr⟩ := optK_some hr
      refine tell_ok hX (KOk.congr (X := X) (Y := X) rfl rfl hK) hin (E := Eref09_Print_0) (H := Href09_Print_0) (R := fun d r => Rref09_Print_0 K d r) (T := Tref09_Print_0) (ts := [(0, 1, 0), (1, 1, 0), (2, 1, 0)]) (len := 0) (cl := clref09_Print_0) (clo := cloref09_Print_0) (roundref09_Print_0 K) (natref09_Print_0 K) outref09_Print_0 (hl _ _ ho) (cl0 := clref09_Print_0) (ts0 := []) ?_ rfl (by kernel_rfl) (by kernel_rfl) hr
      rw [clear_lit e 48 hlen, show clearEnv clref09_Print_0 ((List.range 48).map fun i => e.getD i .dead) = [e.getD 0 .dead, .dead, .dead, .dead, e.getD 4 .dead, e.getD 5 .dead, .dead, .dead, .dead, .dead, .dead, .dead, .dead, .dead, .dead, .dead, .dead, .dead, .dead, .dead, .dead, .dead, .dead, .dead, .dead, .dead, .dead, .dead, .dead, .dead, .dead, .dead, .dead, .dead, .dead, .dead, .dead, .dead, .dead, .dead, .dead, .dead, .dead, .dead, .dead, .dead, .dead, .dead] from by kernel_rfl]; rw [q0, q4, q5]
      kernel_rfl
    · cases hr
  · cases hr
noncomputable def Rref09_Print (K : PureK) (lref09_Print_0 : Sref09_Print_0 → Option Oref09_Print_0) (l0n : Bool) (l0 : List AV) : Option AV :=
  optK (K f_ref09_Right [AV.lst 2 l0n l0]) fun wv3 =>
    Ab.asBool wv3 fun wb4 =>
    br (!wb4)
      (some (AV.tup [sv ({ data := #[] } : ByteArray), iv 1]))
      (optK (lref09_Print_0 (Sref09_Print_0.s0 l0n l0 ({ data := #[] } : ByteArray) 0)) fun wo5 => Oref09_Print_0.k wo5 (fun (s4_6 : ByteArray) =>
      some (AV.tup [sv s4_6, iv 0])))
theorem topref09_Print (K : PureK) (lref09_Print_0 : Sref09_Print_0 → Option Oref09_Print_0) (l0n : Bool) (l0 : List AV) : topK (addLp X 21 5 (Fref09_Print_0 lref09_Print_0)) K 0 f_ref09_Print [(.lst 2 l0n l0)] = Rref09_Print K lref09_Print_0 l0n l0 := by kernel_rfl
theorem pcref09_Print {K : PureK} (hK : KOk X K) {lref09_Print_0 : Sref09_Print_0 → Option Oref09_Print_0} (href09_Print_0 : ∀ s o, lref09_Print_0 s = some o → ∃ m, fuelRec (Rref09_Print_0 K some) m s = some o) {l0n : Bool} {l0 : List AV} {v : AV} (h : Rref09_Print K lref09_Print_0 l0n l0 = some v) : PureCall X f_ref09_Print [(.lst 2 l0n l0)] v := by
  have hSo0 := soundX
  obtain ⟨_, _, hin0⟩ := loopIn_of (X := X) (f := 21) (i := 0) (key := 5) (by kernel_rfl)
  have hSo1 := sound_add hSo0 hin0 (okref09_Print_0 hSo0 hK href09_Print_0)
  exact tell_top (X := X) (Y := (addLp X 21 5 (Fref09_Print_0 lref09_Print_0))) rfl rfl hSo1 hK ((topref09_Print K lref09_Print_0 l0n l0).trans h)

/-! 37: escheat/escheatref09.end -/
noncomputable def Rref09_end (K : PureK) (n0 : Int) : Option AV :=
  br (n0 == 0)
      (some (sv ({ data := #[42] } : ByteArray)))
      (optK (K f_ref09_Digits [iv n0]) fun wv1 =>
      Ab.asStr wv1 fun ws2 =>
      some (sv ws2))
theorem topref09_end (K : PureK) (n0 : Int) : topK X K 0 f_ref09_end [(.v (.int .i64 n0))] = Rref09_end K n0 := by kernel_rfl
theorem pcref09_end {K : PureK} (hK : KOk X K) {n0 : Int} {v : AV} (h : Rref09_end K n0 = some v) : PureCall X f_ref09_end [(.v (.int .i64 n0))] v := by
  have hSo0 := soundX
  exact tell_top (X := X) (Y := X) rfl rfl hSo0 hK ((topref09_end K n0).trans h)

/-! 49: escheat/escheatref09.Digits -/
noncomputable def Rref09_Digits (K : PureK) (n0 : Int) : Option AV :=
  br (decide (n0 < 10))
      (br (decide (0 ≤ n0))
        (br (decide (n0 ≤ w64 (n0 + 1)))
          (br (decide (w64 (n0 + 1) ≤ 10))
            (some (sv (cutStr ({ data := #[48, 49, 50, 51, 52, 53, 54, 55, 56, 57] } : ByteArray) (some n0) (some (w64 (n0 + 1))))))
            (none))
          (none))
        (none))
      (optK (K f_ref09_Digits [iv (w64 (n0.tdiv 10))]) fun wv1 =>
      Ab.asStr wv1 fun ws2 =>
      optK (K f_ref09_Digits [iv (n0.tmod 10)]) fun wv3 =>
      Ab.asStr wv3 fun ws4 =>
      br ((ws2.size + ws4.size).ble maxStr)
        (some (sv (ws2 ++ ws4)))
        (none))
theorem topref09_Digits (K : PureK) (n0 : Int) : topK X K 0 f_ref09_Digits [(.v (.int .i64 n0))] = Rref09_Digits K n0 := by kernel_rfl
theorem pcref09_Digits {K : PureK} (hK : KOk X K) {n0 : Int} {v : AV} (h : Rref09_Digits K n0 = some v) : PureCall X f_ref09_Digits [(.v (.int .i64 n0))] v := by
  have hSo0 := soundX
  exact tell_top (X := X) (Y := X) rfl rfl hSo0 hK ((topref09_Digits K n0).trans h)

/-! 19: escheat/escheatref09.Parse -/
inductive Sref09_Parse_0 where
  | s0 (l5n : Bool) (l5 : List AV) (i6 : Int)
  | s1 (l5n : Bool) (l5 : List AV) (i6 : Int) (obj0_0_0 : Int) (obj0_0_1 : Int) (obj1 : List AV)

inductive Oref09_Parse_0 where
  | x0 (t3 : Int)
  | x1 (t3 : Int) (obj0_0_0 : Int) (obj0_0_1 : Int)
  | x2
  | x3 (t3 : Int) (obj0_0_0 : Int) (obj0_0_1 : Int) (obj1 : List AV)
  | x4 (t3 : Int) (obj0_0_0 : Int) (obj0_0_1 : Int) (obj1 : List AV) (obj2_0_0 : Int) (obj2_0_1 : Int)
  | x5 (obj0_0_0 : Int) (obj0_0_1 : Int) (obj1 : List AV)

def Oref09_Parse_0.k {β : Type} (o : Oref09_Parse_0) (c0 : Int → Option β) (c1 : Int → Int → Int → Option β) (c2 : Option β) (c3 : Int → Int → Int → (List AV) → Option β) (c4 : Int → Int → Int → (List AV) → Int → Int → Option β) (c5 : Int → Int → (List AV) → Option β) : Option β := match o with
  | .x0 t3 => c0 t3
  | .x1 t3 obj0_0_0 obj0_0_1 => c1 t3 obj0_0_0 obj0_0_1
  | .x2 => c2
  | .x3 t3 obj0_0_0 obj0_0_1 obj1 => c3 t3 obj0_0_0 obj0_0_1 obj1
  | .x4 t3 obj0_0_0 obj0_0_1 obj1 obj2_0_0 obj2_0_1 => c4 t3 obj0_0_0 obj0_0_1 obj1 obj2_0_0 obj2_0_1
  | .x5 obj0_0_0 obj0_0_1 obj1 => c5 obj0_0_0 obj0_0_1 obj1

def Eref09_Parse_0 : Sref09_Parse_0 → Env
  | .s0 l5n l5 i6 => [.dead, .dead, .dead, .dead, (.lst 2 true []), (.lst 1 l5n l5), (.v (.int .i64 i6)), .dead, .dead, .dead, .dead, .dead, .dead, .dead, .dead, .dead, .dead, .dead, .dead, .dead, .dead, .dead, .dead, .dead, .dead, .dead, .dead, .dead, .dead, .dead, .dead, .dead, .dead, .dead, .dead, .dead, .dead, .dead, .dead, .dead, .dead, .dead, .dead, .dead, .dead, .dead, .dead, .dead, .dead, .dead, .dead, .dead, .dead, .dead, .dead, .dead, .dead, .dead, .dead, .dead, .dead, .dead, .dead, .dead, .dead, .dead, .dead, .dead]
  | .s1 l5n l5 i6 obj0_0_0 obj0_0_1 obj1 => [.dead, .dead, .dead, .dead, (.own 1 1 0 none), (.lst 1 l5n l5), (.v (.int .i64 i6)), .dead, .dead, .dead, .dead, .dead, .dead, .dead, .dead, .dead, .dead, .dead, .dead, .dead, .dead, .dead, .dead, .dead, .dead, .dead, .dead, .dead, .dead, .dead, .dead, .dead, .dead, .dead, .dead, .dead, .dead, .dead, .dead, .dead, .dead, .dead, .dead, .dead, .dead, .dead, .dead, .dead, .dead, .dead, .dead, .dead, .dead, .dead, .dead, .dead, .dead, .dead, .dead, .dead, .dead, .dead, .dead, .dead, .dead, .dead, .dead, .dead]

def Href09_Parse_0 : Sref09_Parse_0 → Heap
  | .s0 l5n l5 i6 => []
  | .s1 l5n l5 i6 obj0_0_0 obj0_0_1 obj1 => [⟨[(.agg [(.v (.int .i64 obj0_0_0)), (.v (.int .i64 obj0_0_1))])], 1, 0, true, true, 25, 2, none⟩, ⟨obj1, 1, 0, true, false, 25, 2, none⟩]

def Tref09_Parse_0 {β : Type} (k : Ex → Env → Heap → Option β) (o : Oref09_Parse_0) : Option β := Oref09_Parse_0.k o (fun t3 => k .ret [.dead, .dead, (.lst 2 true []), (.v (.int .i64 t3)), (.lst 2 true []), .dead, .dead, .dead, .dead, .dead, .dead, .dead, .dead, .dead, .dead, .dead, .dead, .dead, .dead, .dead, .dead, .dead, .dead, .dead, .dead, .dead, .dead, .dead, .dead, .dead, .dead, .dead, .dead, .dead, .dead, .dead, .dead, .dead, .dead, .dead, .dead, .dead, .dead, .dead, .dead, .dead, .dead, .dead, .dead, .dead, .dead, .dead, .dead, .dead, .dead, .dead, .dead, .dead, .dead, .dead, .dead, .dead, .dead, .dead, .dead, .dead, .dead, .dead] []) (fun t3 obj0_0_0 obj0_0_1 => k .ret [.dead, .dead, (.lst 2 true []), (.v (.int .i64 t3)), (.lst 2 true []), .dead, .dead, .dead, .dead, .dead, .dead, .dead, .dead, .dead, .dead, .dead, .dead, .dead, .dead, .dead, .dead, .dead, .dead, .dead, .dead, .dead, .dead, .dead, .dead, .dead, .dead, .dead, .dead, .dead, .dead, .dead, .dead, .dead, .dead, .dead, .dead, .dead, .dead, .dead, .dead, .dead, .dead, .dead, .dead, .dead, .dead, .dead, .dead, .dead, .dead, .dead, .dead, .dead, .dead, .dead, .dead, .dead, .dead, .dead, .dead, .dead, .dead, .dead] [⟨[(.agg [(.v (.int .i64 obj0_0_0)), (.v (.int .i64 obj0_0_1))])], 0, 0, true, true, 25, 2, none⟩]) (k (.exit 0) [.dead, .dead, .dead, .dead, (.lst 2 true []), .dead, .dead, .dead, .dead, .dead, .dead, .dead, .dead, .dead, .dead, .dead, .dead, .dead, .dead, .dead, .dead, .dead, .dead, .dead, .dead, .dead, .dead, .dead, .dead, .dead, .dead, .dead, .dead, .dead, .dead, .dead, .dead, .dead, .dead, .dead, .dead, .dead, .dead, .dead, .dead, .dead, .dead, .dead, .dead, .dead, .dead, .dead, .dead, .dead, .dead, .dead, .dead, .dead, .dead, .dead, .dead, .dead, .dead, .dead, .dead, .dead, .dead, .dead] []) (fun t3 obj0_0_0 obj0_0_1 obj1 => k .ret [.dead, .dead, (.lst 2 true []), (.v (.int .i64 t3)), (.own 1 1 0 none), .dead, .dead, .dead, .dead, .dead, .dead, .dead, .dead, .dead, .dead, .dead, .dead, .dead, .dead, .dead, .dead, .dead, .dead, .dead, .dead, .dead, .dead, .dead, .dead, .dead, .dead, .dead, .dead, .dead, .dead, .dead, .dead, .dead, .dead, .dead, .dead, .dead, .dead, .dead, .dead, .dead, .dead, .dead, .dead, .dead, .dead, .dead, .dead, .dead, .dead, .dead, .dead, .dead, .dead, .dead, .dead, .dead, .dead, .dead, .dead, .dead, .dead, .dead] [⟨[(.agg [(.v (.int .i64 obj0_0_0)), (.v (.int .i64 obj0_0_1))])], 1, 0, true, true, 25, 2, none⟩, ⟨obj1, 1, 0, true, false, 25, 2, none⟩]) (fun t3 obj0_0_0 obj0_0_1 obj1 obj2_0_0 obj2_0_1 => k .ret [.dead, .dead, (.lst 2 true []), (.v (.int .i64 t3)), (.own 1 1 0 none), .dead, .dead, .dead, .dead, .dead, .dead, .dead, .dead, .dead, .dead, .dead, .dead, .dead, .dead, .dead, .dead, .dead, .dead, .dead, .dead, .dead, .dead, .dead, .dead, .dead, .dead, .dead, .dead, .dead, .dead, .dead, .dead, .dead, .dead, .dead, .dead, .dead, .dead, .dead, .dead, .dead, .dead, .dead, .dead, .dead, .dead, .dead, .dead, .dead, .dead, .dead, .dead, .dead, .dead, .dead, .dead, .dead, .dead, .dead, .dead, .dead, .dead, .dead] [⟨[(.agg [(.v (.int .i64 obj0_0_0)), (.v (.int .i64 obj0_0_1))])], 1, 0, true, true, 25, 2, none⟩, ⟨obj1, 1, 0, true, false, 25, 2, none⟩, ⟨[(.agg [(.v (.int .i64 obj2_0_0)), (.v (.int .i64 obj2_0_1))])], 0, 0, true, true, 25, 2, none⟩]) (fun obj0_0_0 obj0_0_1 obj1 => k (.exit 0) [.dead, .dead, .dead, .dead, (.own 1 1 0 none), .dead, .dead, .dead, .dead, .dead, .dead, .dead, .dead, .dead, .dead, .dead, .dead, .dead, .dead, .dead, .dead, .dead, .dead, .dead, .dead, .dead, .dead, .dead, .dead, .dead, .dead, .dead, .dead, .dead, .dead, .dead, .dead, .dead, .dead, .dead, .dead, .dead, .dead, .dead, .dead, .dead, .dead, .dead, .dead, .dead, .dead, .dead, .dead, .dead, .dead, .dead, .dead, .dead, .dead, .dead, .dead, .dead, .dead, .dead, .dead, .dead, .dead, .dead] [⟨[(.agg [(.v (.int .i64 obj0_0_0)), (.v (.int .i64 obj0_0_1))])], 1, 0, true, true, 25, 2, none⟩, ⟨obj1, 1, 0, true, false, 25, 2, none⟩])

def Fref09_Parse_0 (lref09_Parse_0 : Sref09_Parse_0 → Option Oref09_Parse_0) : LoopF := ⟨fun e h k => match Nat.beq e.length 68 with
  | true => (match e.getD 4 .dead, e.getD 5 .dead, e.getD 6 .dead, h with
    | (.lst 2 true []), (.lst 1 l5n l5), (.v (.int .i64 i6)), [] => optK (lref09_Parse_0 (.s0 l5n l5 i6)) (Tref09_Parse_0 k)
    | _, _, _, _ => none)
  | false => none⟩

def clref09_Parse_0 : List Tmp := [0, 1, 2, 3, 7, 8, 9, 10, 11, 12, 13, 14, 15, 16, 17, 18, 19, 20, 21, 22, 23, 24, 25, 26, 27, 28, 29, 30, 31, 32, 33, 34, 35, 36, 37, 38, 39, 40, 41, 42, 43, 44, 45, 46, 47, 48, 49, 50, 51, 52, 53, 54, 55, 56, 57, 58, 59, 60, 61, 62, 63, 64, 65, 66, 67]
def cloref09_Parse_0 : List Tmp := [0, 1, 5, 6, 7, 8, 9, 10, 11, 12, 13, 14, 15, 16, 17, 18, 19, 20, 21, 22, 23, 24, 25, 26, 27, 28, 29, 30, 31, 32, 33, 34, 35, 36, 37, 38, 39, 40, 41, 42, 43, 44, 45, 46, 47, 48, 49, 50, 51, 52, 53, 54, 55, 56, 57, 58, 59, 60, 61, 62, 63, 64, 65, 66, 67]

noncomputable def Rref09_Parse_0 {β : Type} (K : PureK) (d : Oref09_Parse_0 → Option β) (r : Sref09_Parse_0 → Option β) : Sref09_Parse_0 → Option β
  | .s0 l5n l5 i6 =>
    br (decide (i6 < ((l5.length : Nat) : Int)))
      (br (decide (0 ≤ i6))
        (br (decide (i6 < ((l5.length : Nat) : Int)))
          (optK l5[i6.toNat]? fun wv1 =>
          Ab.asStr wv1 fun ws2 =>
          optK (K f_ref09_split [sv ws2, uv 58]) fun wv3 =>
          Ab.asLst wv3 1 fun wb4 wr4 =>
          br (decide (((wr4.length : Nat) : Int) > 2))
            (d (.x0 3))
            (br (decide (0 < ((wr4.length : Nat) : Int)))
              (optK wr4[0]? fun wv5 =>
              Ab.asStr wv5 fun ws6 =>
              optK (K f_ref09_number [sv ws6]) fun wv7 =>
              Ab.asInt wv7 .i64 fun wn8 =>
              br (decide (0 ≤ w64 (((wr4.length : Nat) : Int) - 1)))
                (br (decide (w64 (((wr4.length : Nat) : Int) - 1) < ((wr4.length : Nat) : Int)))
                  (optK (wr4[(w64 (((wr4.length : Nat) : Int) - 1)).toNat]?) fun wv9 =>
                  Ab.asStr wv9 fun ws10 =>
                  optK (K f_ref09_number [sv ws10]) fun wv11 =>
                  Ab.asInt wv11 .i64 fun wn12 =>
                  optK (br (decide (wn8 < 0))
                      (some (bv true))
                      (br (decide (wn12 < 0))
                        (some (bv true))
                        (br (((wr4.length : Nat) : Int) == 2)
                          (some (bv (wn8 == wn12)))
                          (some (bv false))))) fun wv13 =>
                  Ab.asBool wv13 fun wb14 =>
                  br wb14
                    (d (.x1 3 wn8 wn12))
                    (r (.s1 l5n l5 (w64 (i6 + 1)) wn8 wn12 [AV.agg [iv wn8, iv wn12]])))
                  (none))
                (none))
              (none)))
          (none))
        (none))
      (d (.x2))
  | .s1 l5n l5 i6 obj0_0_0 obj0_0_1 obj1 =>
    br (decide (i6 < ((l5.length : Nat) : Int)))
      (br (decide (0 ≤ i6))
        (br (decide (i6 < ((l5.length : Nat) : Int)))
          (optK l5[i6.toNat]? fun wv15 =>
          Ab.asStr wv15 fun ws16 =>
          optK (K f_ref09_split [sv ws16, uv 58]) fun wv17 =>
          Ab.asLst wv17 1 fun wb18 wr18 =>
          br (decide (((wr18.length : Nat) : Int) > 2))
            (d (.x3 3 obj0_0_0 obj0_0_1 obj1))
            (br (decide (0 < ((wr18.length : Nat) : Int)))
              (optK wr18[0]? fun wv19 =>
              Ab.asStr wv19 fun ws20 =>
              optK (K f_ref09_number [sv ws20]) fun wv21 =>
              Ab.asInt wv21 .i64 fun wn22 =>
              br (decide (0 ≤ w64 (((wr18.length : Nat) : Int) - 1)))
                (br (decide (w64 (((wr18.length : Nat) : Int) - 1) < ((wr18.length : Nat) : Int)))
                  (optK (wr18[(w64 (((wr18.length : Nat) : Int) - 1)).toNat]?) fun wv23 =>
                  Ab.asStr wv23 fun ws24 =>
                  optK (K f_ref09_number [sv ws24]) fun wv25 =>
                  Ab.asInt wv25 .i64 fun wn26 =>
                  optK (br (decide (wn22 < 0))
                      (some (bv true))
                      (br (decide (wn26 < 0))
                        (some (bv true))
                        (br (((wr18.length : Nat) : Int) == 2)
                          (some (bv (wn22 == wn26)))
                          (some (bv false))))) fun wv27 =>
                  Ab.asBool wv27 fun wb28 =>
                  br wb28
                    (d (.x4 3 obj0_0_0 obj0_0_1 obj1 wn22 wn26))
                    (br (lenOk (obj1.length + [AV.agg [iv wn22, iv wn26]].length) 16 && lenOk (obj1.length + [AV.agg [iv wn22, iv wn26]].length) 1)
                      (r (.s1 l5n l5 (w64 (i6 + 1)) obj0_0_0 obj0_0_1 (obj1 ++ [AV.agg [iv wn22, iv wn26]])))
                      (none)))
                  (none))
                (none))
              (none)))
          (none))
        (none))
      (d (.x5 obj0_0_0 obj0_0_1 obj1))
theorem roundref09_Parse_0 (K : PureK) {β : Type} (r : Env → Heap → Option β) (k : Ex → Env → Heap → Option β) (s : Sref09_Parse_0) : tellOne X K 0 19 0 [(0, 1, 0), (1, 1, 0), (2, 1, 0)] 0 clref09_Parse_0 cloref09_Parse_0 r k (Eref09_Parse_0 s) (Href09_Parse_0 s) = Rref09_Parse_0 K (Tref09_Parse_0 k) (fun s => r (Eref09_Parse_0 s) (Href09_Parse_0 s)) s := by
  cases s <;> kernel_rfl
theorem Oref09_Parse_0.bind_k {β γ : Type} (o : Oref09_Parse_0) (c0 : Int → Option β) (c1 : Int → Int → Int → Option β) (c2 : Option β) (c3 : Int → Int → Int → (List AV) → Option β) (c4 : Int → Int → Int → (List AV) → Int → Int → Option β) (c5 : Int → Int → (List AV) → Option β) (φ : β → Option γ) : (Oref09_Parse_0.k o c0 c1 c2 c3 c4 c5).bind φ = Oref09_Parse_0.k o (fun t3 => (c0 t3).bind φ) (fun t3 obj0_0_0 obj0_0_1 => (c1 t3 obj0_0_0 obj0_0_1).bind φ) (c2.bind φ) (fun t3 obj0_0_0 obj0_0_1 obj1 => (c3 t3 obj0_0_0 obj0_0_1 obj1).bind φ) (fun t3 obj0_0_0 obj0_0_1 obj1 obj2_0_0 obj2_0_1 => (c4 t3 obj0_0_0 obj0_0_1 obj1 obj2_0_0 obj2_0_1).bind φ) (fun obj0_0_0 obj0_0_1 obj1 => (c5 obj0_0_0 obj0_0_1 obj1).bind φ) := by cases o <;> rfl
theorem natref09_Parse_0 (K : PureK) {β γ : Type} (φ : β → Option γ) (d : Oref09_Parse_0 → Option β) (r : Sref09_Parse_0 → Option β) (s : Sref09_Parse_0) : Rref09_Parse_0 K (fun o => (d o).bind φ) (fun s => (r s).bind φ) s = (Rref09_Parse_0 K d r s).bind φ := by
  cases s <;> simp only [Rref09_Parse_0, bind_optK, bind_br, bind_asInt, bind_asBool, bind_asStr, bind_asLst, bind_asAgg, bind_asTup, bind_asBig, bind_asErr, bind_none]
theorem outref09_Parse_0 (o : Oref09_Parse_0) : ∃ x e' h', ∀ {β : Type} (k : Ex → Env → Heap → Option β), Tref09_Parse_0 k o = k x e' h' := by cases o <;> exact ⟨_, _, _, fun _ => rfl⟩
theorem okref09_Parse_0 {K : PureK} (hX : Sound X) (hK : KOk X K) {lref09_Parse_0 : Sref09_Parse_0 → Option Oref09_Parse_0} (hl : ∀ s o, lref09_Parse_0 s = some o → ∃ m, fuelRec (Rref09_Parse_0 K some) m s = some o) (β : Type) (e : Env) (h : Heap) (k : Ex → Env → Heap → Option β) (r : β) (hr : (Fref09_Parse_0 lref09_Parse_0).run e h k = some r) : ∃ x e' h', k x e' h' = some r ∧ CodeAt X (.loop (loopBody (X).P 19 0)) e h x e' h' := by
  obtain ⟨fn, c, hin⟩ := loopIn_of (X := X) (f := 19) (i := 0) (key := 6) (by kernel_rfl)
  simp only [Fref09_Parse_0] at hr
  split at hr
  · rename_i hlen
    have hlen := Nat.eq_of_beq_eq_true hlen
    split at hr
    · rename_i q4 q5 q6
      obtain ⟨o, ho, hr⟩ := optK_some hr
      refine tell_ok hX (KOk.congr (X := X) (Y := X) rfl rfl hK) hin (E := Eref09_Parse_0) (H := Href09_Parse_0) (R := fun d r => Rref09_Parse_0 K d r) (T := Tref09_Parse_0) (ts := [(0, 1, 0), (1, 1, 0), (2, 1, 0)]) (len := 0) (cl := clref09_Parse_0) (clo := cloref09_Parse_0) (roundref09_Parse_0 K) (natref09_Parse_0 K) outref09_Parse_0 (hl _ _ ho) (cl0 := clref09_Parse_0) (ts0 := []) ?_ rfl (by kernel_rfl) (by kernel_rfl) hr
      rw [clear_lit e 68 hlen, show clearEnv clref09_Parse_0 ((List.range 68).map fun i => e.getD i .dead) = [.dead, .dead, .dead, .dead, e.getD 4 .dead, e.getD 5 .dead, e.getD 6 .dead, .dead, .dead, .dead, .dead, .dead, .dead, .dead, .dead, .dead, .dead, .dead, .dead, .dead, .dead, .dead, .dead, .dead, .dead, .dead, .dead, .dead, .dead, .dead, .dead, .dead, .dead, .dead, .dead, .dead, .dead, .dead, .dead, .dead, .dead, .dead, .dead, .dead, .dead, .dead, .dead, .dead, .dead, .dead, .dead, .dead, .dead, .dead, .dead, .dead, .dead, .dead, .dead, .dead, .dead, .dead, .dead, .dead, .dead, .dead, .dead, .dead] from by kernel_rfl]; rw [q4, q5, q6]
      kernel_rfl
    · cases hr
  · cases hr
noncomputable def Rref09_Parse (K : PureK) (lref09_Parse_0 : Sref09_Parse_0 → Option Oref09_Parse_0) (s0 : ByteArray) : Option AV :=
  br (decide (((s0.size : Nat) : Int) > 2000))
      (some (AV.tup [AV.lst 2 true [], iv 4]))
      (optK (K f_ref09_split [sv s0, uv 44]) fun wv3 =>
      Ab.asLst wv3 1 fun wb4 wr4 =>
      optK (lref09_Parse_0 (Sref09_Parse_0.s0 wb4 wr4 0)) fun wo5 => Oref09_Parse_0.k wo5
        (fun (t3_6 : Int) => some (AV.tup [AV.lst 2 true [], iv t3_6]))
        (fun (t3_7 : Int) (obj0_0_0_7 : Int) (obj0_0_1_7 : Int) => some (AV.tup [AV.lst 2 true [], iv t3_7]))
        (some (AV.tup [AV.lst 2 true [], iv 0]))
        (fun (t3_9 : Int) (obj0_0_0_9 : Int) (obj0_0_1_9 : Int) (obj1_9 : List AV) => some (AV.tup [AV.lst 2 true [], iv t3_9]))
        (fun (t3_10 : Int) (obj0_0_0_10 : Int) (obj0_0_1_10 : Int) (obj1_10 : List AV) (obj2_0_0_10 : Int) (obj2_0_1_10 : Int) => some (AV.tup [AV.lst 2 true [], iv t3_10]))
        (fun (obj0_0_0_11 : Int) (obj0_0_1_11 : Int) (obj1_11 : List AV) => br (decide (((obj1_11.length : Nat) : Int) > 60))
          (some (AV.tup [AV.lst 2 true [], iv 4]))
          (some (AV.tup [AV.lst 2 false obj1_11, iv 0]))))
theorem topref09_Parse (K : PureK) (lref09_Parse_0 : Sref09_Parse_0 → Option Oref09_Parse_0) (s0 : ByteArray) : topK (addLp X 19 6 (Fref09_Parse_0 lref09_Parse_0)) K 0 f_ref09_Parse [(.v (.string s0))] = Rref09_Parse K lref09_Parse_0 s0 := by kernel_rfl
theorem pcref09_Parse {K : PureK} (hK : KOk X K) {lref09_Parse_0 : Sref09_Parse_0 → Option Oref09_Parse_0} (href09_Parse_0 : ∀ s o, lref09_Parse_0 s = some o → ∃ m, fuelRec (Rref09_Parse_0 K some) m s = some o) {s0 : ByteArray} {v : AV} (h : Rref09_Parse K lref09_Parse_0 s0 = some v) : PureCall X f_ref09_Parse [(.v (.string s0))] v := by
  have hSo0 := soundX
  obtain ⟨_, _, hin0⟩ := loopIn_of (X := X) (f := 19) (i := 0) (key := 6) (by kernel_rfl)
  have hSo1 := sound_add hSo0 hin0 (okref09_Parse_0 hSo0 hK href09_Parse_0)
  exact tell_top (X := X) (Y := (addLp X 19 6 (Fref09_Parse_0 lref09_Parse_0))) rfl rfl hSo1 hK ((topref09_Parse K lref09_Parse_0 s0).trans h)

/-! 33: escheat/escheatref09.split -/
inductive Sref09_split_0 where
  | s0 (s0 : ByteArray) (c1 : Int) (i6 : Int) (obj0 : List AV)

inductive Oref09_split_0 where
  | x0 (obj0 : List AV)

def Oref09_split_0.k {β : Type} (o : Oref09_split_0) (c0 : (List AV) → Option β) : Option β := match o with
  | .x0 obj0 => c0 obj0

def Eref09_split_0 : Sref09_split_0 → Env
  | .s0 s0 c1 i6 obj0 => [(.v (.string s0)), (.v (.int .u8 c1)), .dead, .dead, .dead, (.own 0 1 0 none), (.v (.int .i64 i6)), .dead, .dead, .dead, .dead, .dead, .dead, .dead, .dead, .dead, .dead, .dead, .dead, .dead, .dead, .dead, .dead, .dead, .dead, .dead, .dead, .dead, .dead, .dead, .dead, .dead, .dead, .dead, .dead, .dead, .dead, .dead, .dead, .dead]

def Href09_split_0 : Sref09_split_0 → Heap
  | .s0 s0 c1 i6 obj0 => [⟨obj0, 1, 0, true, false, 9, 1, none⟩]

def Tref09_split_0 {β : Type} (k : Ex → Env → Heap → Option β) (o : Oref09_split_0) : Option β := Oref09_split_0.k o (fun obj0 => k (.exit 0) [.dead, .dead, .dead, .dead, .dead, (.own 0 1 0 none), .dead, .dead, .dead, .dead, .dead, .dead, .dead, .dead, .dead, .dead, .dead, .dead, .dead, .dead, .dead, .dead, .dead, .dead, .dead, .dead, .dead, .dead, .dead, .dead, .dead, .dead, .dead, .dead, .dead, .dead, .dead, .dead, .dead, .dead] [⟨obj0, 1, 0, true, false, 9, 1, none⟩])

def Fref09_split_0 (lref09_split_0 : Sref09_split_0 → Option Oref09_split_0) : LoopF := ⟨fun e h k => match Nat.beq e.length 40 with
  | true => (match e.getD 0 .dead, e.getD 1 .dead, e.getD 5 .dead, e.getD 6 .dead, h with
    | (.v (.string s0)), (.v (.int .u8 c1)), (.own 0 0 0 none), (.v (.int .i64 i6)), [⟨obj0, 0, 0, true, false, 9, 1, none⟩] => optK (lref09_split_0 (.s0 s0 c1 i6 obj0)) (Tref09_split_0 k)
    | _, _, _, _, _ => none)
  | false => none⟩

def clref09_split_0 : List Tmp := [2, 3, 4, 7, 8, 9, 10, 11, 12, 13, 14, 15, 16, 17, 18, 19, 20, 21, 22, 23, 24, 25, 26, 27, 28, 29, 30, 31, 32, 33, 34, 35, 36, 37, 38, 39]
def cloref09_split_0 : List Tmp := [0, 1, 2, 3, 4, 6, 7, 8, 9, 10, 11, 12, 13, 14, 15, 16, 17, 18, 19, 20, 21, 22, 23, 24, 25, 26, 27, 28, 29, 30, 31, 32, 33, 34, 35, 36, 37, 38, 39]

noncomputable def Rref09_split_0 {β : Type} (K : PureK) (d : Oref09_split_0 → Option β) (r : Sref09_split_0 → Option β) : Sref09_split_0 → Option β
  | .s0 s0 c1 i6 obj0 =>
    br (decide (i6 < ((s0.size : Nat) : Int)))
      (br (decide (0 ≤ i6))
        (br (decide (i6 < ((s0.size : Nat) : Int)))
          (br (bt s0 i6.toNat == c1)
            (br (lenOk (obj0.length + 1) 16 && lenOk (obj0.length + 1) 1)
              (r (.s0 s0 c1 (w64 (i6 + 1)) (obj0 ++ [sv ({ data := #[] } : ByteArray)])))
              (none))
            (br (decide (0 ≤ w64 (((obj0.length : Nat) : Int) - 1)))
              (br (decide (w64 (((obj0.length : Nat) : Int) - 1) < ((obj0.length : Nat) : Int)))
                (optK (obj0[0 + (w64 (((obj0.length : Nat) : Int) - 1)).toNat]?) fun wv1 =>
                Ab.asStr wv1 fun ws2 =>
                br (decide (0 ≤ i6))
                  (br (decide (i6 ≤ w64 (i6 + 1)))
                    (br (decide (w64 (i6 + 1) ≤ ((s0.size : Nat) : Int)))
                      (br ((ws2.size + (cutStr s0 (some i6) (some (w64 (i6 + 1)))).size).ble maxStr)
                        (br (decide (0 ≤ w64 (((obj0.length : Nat) : Int) - 1)))
                          (br (decide (w64 (((obj0.length : Nat) : Int) - 1) < ((obj0.length : Nat) : Int)))
                            (r (.s0 s0 c1 (w64 (i6 + 1)) (obj0.set (0 + (w64 (((obj0.length : Nat) : Int) - 1)).toNat) (sv (ws2 ++ cutStr s0 (some i6) (some (w64 (i6 + 1))))))))
                            (none))
                          (none))
                        (none))
                      (none))
                    (none))
                  (none))
                (none))
              (none)))
          (none))
        (none))
      (d (.x0 obj0))
theorem roundref09_split_0 (K : PureK) {β : Type} (r : Env → Heap → Option β) (k : Ex → Env → Heap → Option β) (s : Sref09_split_0) : tellOne X K 0 33 0 [(0, 1, 0), (1, 1, 0), (2, 1, 0), (3, 1, 0)] 1 clref09_split_0 cloref09_split_0 r k (Eref09_split_0 s) (Href09_split_0 s) = Rref09_split_0 K (Tref09_split_0 k) (fun s => r (Eref09_split_0 s) (Href09_split_0 s)) s := by
  cases s <;> kernel_rfl
theorem Oref09_split_0.bind_k {β γ : Type} (o : Oref09_split_0) (c0 : (List AV) → Option β) (φ : β → Option γ) : (Oref09_split_0.k o c0).bind φ = Oref09_split_0.k o (fun obj0 => (c0 obj0).bind φ) := by cases o <;> rfl
theorem natref09_split_0 (K : PureK) {β γ : Type} (φ : β → Option γ) (d : Oref09_split_0 → Option β) (r : Sref09_split_0 → Option β) (s : Sref09_split_0) : Rref09_split_0 K (fun o => (d o).bind φ) (fun s => (r s).bind φ) s = (Rref09_split_0 K d r s).bind φ := by
  cases s <;> simp only [Rref09_split_0, bind_optK, bind_br, bind_asInt, bind_asBool, bind_asStr, bind_asLst, bind_asAgg, bind_asTup, bind_asBig, bind_asErr, bind_none]
theorem outref09_split_0 (o : Oref09_split_0) : ∃ x e' h', ∀ {β : Type} (k : Ex → Env → Heap → Option β), Tref09_split_0 k o = k x e' h' := by cases o <;> exact ⟨_, _, _, fun _ => rfl⟩
theorem okref09_split_0 {K : PureK} (hX : Sound X) (hK : KOk X K) {lref09_split_0 : Sref09_split_0 → Option Oref09_split_0} (hl : ∀ s o, lref09_split_0 s = some o → ∃ m, fuelRec (Rref09_split_0 K some) m s = some o) (β : Type) (e : Env) (h : Heap) (k : Ex → Env → Heap → Option β) (r : β) (hr : (Fref09_split_0 lref09_split_0).run e h k = some r) : ∃ x e' h', k x e' h' = some r ∧ CodeAt X (.loop (loopBody (X).P 33 0)) e h x e' h' := by
  obtain ⟨fn, c, hin⟩ := loopIn_of (X := X) (f := 33) (i := 0) (key := 3) (by kernel_rfl)
  simp only [Fref09_split_0] at hr
  split at hr
  · rename_i hlen
    have hlen := Nat.eq_of_beq_eq_true hlen
    split at hr
    · rename_i q0 q1 q5 q6
      obtain ⟨o, ho, hr⟩ := optK_some hr
      refine tell_ok hX (KOk.congr (X := X) (Y := X) rfl rfl hK) hin (E := Eref09_split_0) (H := Href09_split_0) (R := fun d r => Rref09_split_0 K d r) (T := Tref09_split_0) (ts := [(0, 1, 0), (1, 1, 0), (2, 1, 0), (3, 1, 0)]) (len := 1) (cl := clref09_split_0) (clo := cloref09_split_0) (roundref09_split_0 K) (natref09_split_0 K) outref09_split_0 (hl _ _ ho) (cl0 := clref09_split_0) (ts0 := [(0, 1, 0)]) ?_ rfl (by kernel_rfl) (by kernel_rfl) hr
      rw [clear_lit e 40 hlen, show clearEnv clref09_split_0 ((List.range 40).map fun i => e.getD i .dead) = [e.getD 0 .dead, e.getD 1 .dead, .dead, .dead, .dead, e.getD 5 .dead, e.getD 6 .dead, .dead, .dead, .dead, .dead, .dead, .dead, .dead, .dead, .dead, .dead, .dead, .dead, .dead, .dead, .dead, .dead, .dead, .dead, .dead, .dead, .dead, .dead, .dead, .dead, .dead, .dead, .dead, .dead, .dead, .dead, .dead, .dead, .dead] from by kernel_rfl]; rw [q0, q1, q5, q6]
      kernel_rfl
    · cases hr
  · cases hr
noncomputable def Rref09_split (K : PureK) (lref09_split_0 : Sref09_split_0 → Option Oref09_split_0) (s0 : ByteArray) (c1 : Int) : Option AV :=
  optK (lref09_split_0 (Sref09_split_0.s0 s0 c1 0 [sv ({ data := #[] } : ByteArray)])) fun wo1 => Oref09_split_0.k wo1 (fun (obj0_2 : List AV) =>
    some (AV.lst 1 false obj0_2))
theorem topref09_split (K : PureK) (lref09_split_0 : Sref09_split_0 → Option Oref09_split_0) (s0 : ByteArray) (c1 : Int) : topK (addLp X 33 3 (Fref09_split_0 lref09_split_0)) K 0 f_ref09_split [(.v (.string s0)), (.v (.int .u8 c1))] = Rref09_split K lref09_split_0 s0 c1 := by kernel_rfl
theorem pcref09_split {K : PureK} (hK : KOk X K) {lref09_split_0 : Sref09_split_0 → Option Oref09_split_0} (href09_split_0 : ∀ s o, lref09_split_0 s = some o → ∃ m, fuelRec (Rref09_split_0 K some) m s = some o) {s0 : ByteArray} {c1 : Int} {v : AV} (h : Rref09_split K lref09_split_0 s0 c1 = some v) : PureCall X f_ref09_split [(.v (.string s0)), (.v (.int .u8 c1))] v := by
  have hSo0 := soundX
  obtain ⟨_, _, hin0⟩ := loopIn_of (X := X) (f := 33) (i := 0) (key := 3) (by kernel_rfl)
  have hSo1 := sound_add hSo0 hin0 (okref09_split_0 hSo0 hK href09_split_0)
  exact tell_top (X := X) (Y := (addLp X 33 3 (Fref09_split_0 lref09_split_0))) rfl rfl hSo1 hK ((topref09_split K lref09_split_0 s0 c1).trans h)

/-! 34: escheat/escheatref09.number -/
inductive Sref09_number_0 where
  | s0 (s0 : ByteArray) (n3 : Int) (i4 : Int)

inductive Oref09_number_0 where
  | x0 (t2 : Int) (n3 : Int)
  | x1 (n3 : Int)

def Oref09_number_0.k {β : Type} (o : Oref09_number_0) (c0 : Int → Int → Option β) (c1 : Int → Option β) : Option β := match o with
  | .x0 t2 n3 => c0 t2 n3
  | .x1 n3 => c1 n3

def Eref09_number_0 : Sref09_number_0 → Env
  | .s0 s0 n3 i4 => [(.v (.string s0)), .dead, .dead, (.v (.int .i64 n3)), (.v (.int .i64 i4)), .dead, .dead, .dead, .dead, .dead, .dead, .dead, .dead, .dead, .dead, .dead, .dead, .dead, .dead, .dead, .dead, .dead, .dead, .dead, .dead, .dead, .dead, .dead, .dead, .dead, .dead, .dead, .dead, .dead, .dead, .dead, .dead, .dead, .dead, .dead, .dead, .dead, .dead, .dead, .dead]

def Href09_number_0 : Sref09_number_0 → Heap
  | .s0 s0 n3 i4 => []

def Tref09_number_0 {β : Type} (k : Ex → Env → Heap → Option β) (o : Oref09_number_0) : Option β := Oref09_number_0.k o (fun t2 n3 => k .ret [.dead, .dead, (.v (.int .i64 t2)), (.v (.int .i64 n3)), .dead, .dead, .dead, .dead, .dead, .dead, .dead, .dead, .dead, .dead, .dead, .dead, .dead, .dead, .dead, .dead, .dead, .dead, .dead, .dead, .dead, .dead, .dead, .dead, .dead, .dead, .dead, .dead, .dead, .dead, .dead, .dead, .dead, .dead, .dead, .dead, .dead, .dead, .dead, .dead, .dead] []) (fun n3 => k (.exit 0) [.dead, .dead, .dead, (.v (.int .i64 n3)), .dead, .dead, .dead, .dead, .dead, .dead, .dead, .dead, .dead, .dead, .dead, .dead, .dead, .dead, .dead, .dead, .dead, .dead, .dead, .dead, .dead, .dead, .dead, .dead, .dead, .dead, .dead, .dead, .dead, .dead, .dead, .dead, .dead, .dead, .dead, .dead, .dead, .dead, .dead, .dead, .dead] [])

def Fref09_number_0 (lref09_number_0 : Sref09_number_0 → Option Oref09_number_0) : LoopF := ⟨fun e h k => match Nat.beq e.length 45 with
  | true => (match e.getD 0 .dead, e.getD 3 .dead, e.getD 4 .dead, h with
    | (.v (.string s0)), (.v (.int .i64 n3)), (.v (.int .i64 i4)), [] => optK (lref09_number_0 (.s0 s0 n3 i4)) (Tref09_number_0 k)
    | _, _, _, _ => none)
  | false => none⟩

def clref09_number_0 : List Tmp := [1, 2, 5, 6, 7, 8, 9, 10, 11, 12, 13, 14, 15, 16, 17, 18, 19, 20, 21, 22, 23, 24, 25, 26, 27, 28, 29, 30, 31, 32, 33, 34, 35, 36, 37, 38, 39, 40, 41, 42, 43, 44]
def cloref09_number_0 : List Tmp := [0, 1, 4, 5, 6, 7, 8, 9, 10, 11, 12, 13, 14, 15, 16, 17, 18, 19, 20, 21, 22, 23, 24, 25, 26, 27, 28, 29, 30, 31, 32, 33, 34, 35, 36, 37, 38, 39, 40, 41, 42, 43, 44]

noncomputable def Rref09_number_0 {β : Type} (K : PureK) (d : Oref09_number_0 → Option β) (r : Sref09_number_0 → Option β) : Sref09_number_0 → Option β
  | .s0 s0 n3 i4 =>
    br (decide (i4 < ((s0.size : Nat) : Int)))
      (optK (br (decide (0 ≤ i4))
          (br (decide (i4 < ((s0.size : Nat) : Int)))
            (br (decide (bt s0 i4.toNat < 48))
              (some (bv true))
              (br (decide (0 ≤ i4))
                (br (decide (i4 < ((s0.size : Nat) : Int)))
                  (br (decide (bt s0 i4.toNat > 57))
                    (some (bv true))
                    (some (bv (decide (n3 > 4294967296)))))
                  (none))
                (none)))
            (none))
          (none)) fun wv1 =>
      Ab.asBool wv1 fun wb2 =>
      br wb2
        (d (.x0 (-1) n3))
        (br (decide (0 ≤ i4))
          (br (decide (i4 < ((s0.size : Nat) : Int)))
            (r (.s0 s0 (w64 (w64 (n3 * 10) + w64 (w8 (bt s0 i4.toNat - 48)))) (w64 (i4 + 1))))
            (none))
          (none)))
      (d (.x1 n3))
theorem roundref09_number_0 (K : PureK) {β : Type} (r : Env → Heap → Option β) (k : Ex → Env → Heap → Option β) (s : Sref09_number_0) : tellOne X K 0 34 0 [(0, 1, 0), (1, 1, 0), (2, 1, 0)] 0 clref09_number_0 cloref09_number_0 r k (Eref09_number_0 s) (Href09_number_0 s) = Rref09_number_0 K (Tref09_number_0 k) (fun s => r (Eref09_number_0 s) (Href09_number_0 s)) s := by
  cases s <;> kernel_rfl
theorem Oref09_number_0.bind_k {β γ : Type} (o : Oref09_number_0) (c0 : Int → Int → Option β) (c1 : Int → Option β) (φ : β → Option γ) : (Oref09_number_0.k o c0 c1).bind φ = Oref09_number_0.k o (fun t2 n3 => (c0 t2 n3).bind φ) (fun n3 => (c1 n3).bind φ) := by cases o <;> rfl
theorem natref09_number_0 (K : PureK) {β γ : Type} (φ : β → Option γ) (d : Oref09_number_0 → Option β) (r : Sref09_number_0 → Option β) (s : Sref09_number_0) : Rref09_number_0 K (fun o => (d o).bind φ) (fun s => (r s).bind φ) s = (Rref09_number_0 K d r s).bind φ := by
  cases s <;> simp only [Rref09_number_0, bind_optK, bind_br, bind_asInt, bind_asBool, bind_asStr, bind_asLst, bind_asAgg, bind_asTup, bind_asBig, bind_asErr, bind_none]
theorem outref09_number_0 (o : Oref09_number_0) : ∃ x e' h', ∀ {β : Type} (k : Ex → Env → Heap → Option β), Tref09_number_0 k o = k x e' h' := by cases o <;> exact ⟨_, _, _, fun _ => rfl⟩
theorem okref09_number_0 {K : PureK} (hX : Sound X) (hK : KOk X K) {lref09_number_0 : Sref09_number_0 → Option Oref09_number_0} (hl : ∀ s o, lref09_number_0 s = some o → ∃ m, fuelRec (Rref09_number_0 K some) m s = some o) (β : Type) (e : Env) (h : Heap) (k : Ex → Env → Heap → Option β) (r : β) (hr : (Fref09_number_0 lref09_number_0).run e h k = some r) : ∃ x e' h', k x e' h' = some r ∧ CodeAt X (.loop (loopBody (X).P 34 0)) e h x e' h' := by
  obtain ⟨fn, c, hin⟩ := loopIn_of (X := X) (f := 34) (i := 0) (key := 7) (by kernel_rfl)
  simp only [Fref09_number_0] at hr
  split at hr
  · rename_i hlen
    have hlen := Nat.eq_of_beq_eq_true hlen
    split at hr
    · rename_i q0 q3 q4
      obtain ⟨o, ho, hr⟩ := optK_some hr
      refine tell_ok hX (KOk.congr (X := X) (Y := X) rfl rfl hK) hin (E := Eref09_number_0) (H := Href09_number_0) (R := fun d r => Rref09_number_0 K d r) (T := Tref09_number_0) (ts := [(0, 1, 0), (1, 1, 0), (2, 1, 0)]) (len := 0) (cl := clref09_number_0) (clo := cloref09_number_0) (roundref09_number_0 K) (natref09_number_0 K) outref09_number_0 (hl _ _ ho) (cl0 := clref09_number_0) (ts0 := []) ?_ rfl (by kernel_rfl) (by kernel_rfl) hr
      rw [clear_lit e 45 hlen, show clearEnv clref09_number_0 ((List.range 45).map fun i => e.getD i .dead) = [e.getD 0 .dead, .dead, .dead, e.getD 3 .dead, e.getD 4 .dead, .dead, .dead, .dead, .dead, .dead, .dead, .dead, .dead, .dead, .dead, .dead, .dead, .dead, .dead, .dead, .dead, .dead, .dead, .dead, .dead, .dead, .dead, .dead, .dead, .dead, .dead, .dead, .dead, .dead, .dead, .dead, .dead, .dead, .dead, .dead, .dead, .dead, .dead, .dead, .dead] from by kernel_rfl]; rw [q0, q3, q4]
      kernel_rfl
    · cases hr
  · cases hr
noncomputable def Rref09_number (K : PureK) (lref09_number_0 : Sref09_number_0 → Option Oref09_number_0) (s0 : ByteArray) : Option AV :=
  br (strEq s0 ({ data := #[42] } : ByteArray))
      (some (iv 0))
      (optK (br (strEq s0 ({ data := #[] } : ByteArray))
          (some (bv true))
          (br (decide (0 < ((s0.size : Nat) : Int)))
            (some (bv (bt s0 0 == 48)))
            (none))) fun wv3 =>
      Ab.asBool wv3 fun wb4 =>
      br wb4
        (some (iv (-1)))
        (optK (lref09_number_0 (Sref09_number_0.s0 s0 0 0)) fun wo5 => Oref09_number_0.k wo5
          (fun (t2_6 : Int) (n3_6 : Int) => some (iv t2_6))
          (fun (n3_7 : Int) => br (decide (n3_7 > 4294967295))
            (some (iv (-1)))
            (some (iv n3_7)))))
theorem topref09_number (K : PureK) (lref09_number_0 : Sref09_number_0 → Option Oref09_number_0) (s0 : ByteArray) : topK (addLp X 34 7 (Fref09_number_0 lref09_number_0)) K 0 f_ref09_number [(.v (.string s0))] = Rref09_number K lref09_number_0 s0 := by kernel_rfl
theorem pcref09_number {K : PureK} (hK : KOk X K) {lref09_number_0 : Sref09_number_0 → Option Oref09_number_0} (href09_number_0 : ∀ s o, lref09_number_0 s = some o → ∃ m, fuelRec (Rref09_number_0 K some) m s = some o) {s0 : ByteArray} {v : AV} (h : Rref09_number K lref09_number_0 s0 = some v) : PureCall X f_ref09_number [(.v (.string s0))] v := by
  have hSo0 := soundX
  obtain ⟨_, _, hin0⟩ := loopIn_of (X := X) (f := 34) (i := 0) (key := 7) (by kernel_rfl)
  have hSo1 := sound_add hSo0 hin0 (okref09_number_0 hSo0 hK href09_number_0)
  exact tell_top (X := X) (Y := (addLp X 34 7 (Fref09_number_0 lref09_number_0))) rfl rfl hSo1 hK ((topref09_number K lref09_number_0 s0).trans h)

/-! 6: escheat/escheatlaw09.UidsTexts -/
noncomputable def Rlaw09_UidsTexts (K : PureK) (s0 : ByteArray) (l1n : Bool) (l1 : List AV) : Option AV :=
  optK (K f_law09_alive []) fun wv1 =>
    Ab.asBool wv1 fun wb2 =>
    br (!wb2)
      (some (bv false))
      (optK (br (decide (((s0.size : Nat) : Int) > 3000))
          (some (bv true))
          (some (bv (decide (((l1.length : Nat) : Int) > 200))))) fun wv3 =>
      Ab.asBool wv3 fun wb4 =>
      br wb4
        (some (bv true))
        (optK (K f_uids_Parse [sv s0]) fun wv5 =>
        Ab.asTup wv5 2 fun wg6 =>
        Ab.asLst (wg6 0) 2 fun wb7 wr7 =>
        Ab.asInt (wg6 1) .i64 fun wn8 =>
        optK (K f_ref09_Parse [sv s0]) fun wv9 =>
        Ab.asTup wv9 2 fun wg10 =>
        Ab.asLst (wg10 0) 2 fun wb11 wr11 =>
        Ab.asInt (wg10 1) .i64 fun wn12 =>
        optK (K f_uids_Print [AV.lst 2 l1n l1]) fun wv13 =>
        Ab.asTup wv13 2 fun wg14 =>
        Ab.asStr (wg14 0) fun ws15 =>
        Ab.asInt (wg14 1) .i64 fun wn16 =>
        optK (K f_ref09_Print [AV.lst 2 l1n l1]) fun wv17 =>
        Ab.asTup wv17 2 fun wg18 =>
        Ab.asStr (wg18 0) fun ws19 =>
        Ab.asInt (wg18 1) .i64 fun wn20 =>
        optK (optK (K f_ref09_Same [AV.lst 2 wb7 wr7, AV.lst 2 wb11 wr11]) fun wv22 =>
          Ab.asBool wv22 fun wb23 =>
          br wb23
            (br (wn8 == wn12)
              (br (strEq ws15 ws19)
                (br (wn16 == wn20)
                  (optK (K f_uids_Right [AV.lst 2 l1n l1]) fun wv24 =>
                  Ab.asBool wv24 fun wb25 =>
                  optK (K f_ref09_Right [AV.lst 2 l1n l1]) fun wv26 =>
                  Ab.asBool wv26 fun wb27 =>
                  some (bv (wb25 == wb27)))
                  (some (bv false)))
                (some (bv false)))
              (some (bv false)))
            (some (bv false))) fun wv21 =>
        Ab.asBool wv21 fun wb28 =>
        some (bv wb28)))
theorem toplaw09_UidsTexts (K : PureK) (s0 : ByteArray) (l1n : Bool) (l1 : List AV) : topK X K 0 f_law09_UidsTexts [(.v (.string s0)), (.lst 2 l1n l1)] = Rlaw09_UidsTexts K s0 l1n l1 := by kernel_rfl
theorem pclaw09_UidsTexts {K : PureK} (hK : KOk X K) {s0 : ByteArray} {l1n : Bool} {l1 : List AV} {v : AV} (h : Rlaw09_UidsTexts K s0 l1n l1 = some v) : PureCall X f_law09_UidsTexts [(.v (.string s0)), (.lst 2 l1n l1)] v := by
  have hSo0 := soundX
  exact tell_top (X := X) (Y := X) rfl rfl hSo0 hK ((toplaw09_UidsTexts K s0 l1n l1).trans h)

/-! 7: escheat/escheatlaw09.UidsBack -/
noncomputable def Rlaw09_UidsBack (K : PureK) (l0n : Bool) (l0 : List AV) (s1 : ByteArray) : Option AV :=
  optK (K f_law09_alive []) fun wv1 =>
    Ab.asBool wv1 fun wb2 =>
    br (!wb2)
      (some (bv false))
      (optK (br (decide (((l0.length : Nat) : Int) > 200))
          (some (bv true))
          (some (bv (decide (((s1.size : Nat) : Int) > 3000))))) fun wv3 =>
      Ab.asBool wv3 fun wb4 =>
      br wb4
        (some (bv true))
        (optK (K f_uids_Print [AV.lst 2 l0n l0]) fun wv5 =>
        Ab.asTup wv5 2 fun wg6 =>
        Ab.asStr (wg6 0) fun ws7 =>
        Ab.asInt (wg6 1) .i64 fun wn8 =>
        br (wn8 == 0)
          (optK (K f_uids_Parse [sv ws7]) fun wv9 =>
          Ab.asTup wv9 2 fun wg10 =>
          Ab.asLst (wg10 0) 2 fun wb11 wr11 =>
          Ab.asInt (wg10 1) .i64 fun wn12 =>
          optK (br (wn12 != 0)
              (some (bv true))
              (optK (K f_ref09_Same [AV.lst 2 l0n l0, AV.lst 2 wb11 wr11]) fun wv14 =>
              Ab.asBool wv14 fun wb15 =>
              some (bv !wb15))) fun wv13 =>
          Ab.asBool wv13 fun wb16 =>
          br wb16
            (some (bv false))
            (optK (K f_uids_Parse [sv s1]) fun wv17 =>
            Ab.asTup wv17 2 fun wg18 =>
            Ab.asLst (wg18 0) 2 fun wb19 wr19 =>
            Ab.asInt (wg18 1) .i64 fun wn20 =>
            br (wn20 != 0)
              (some (bv (((wr19.length : Nat) : Int) == 0)))
              (optK (K f_uids_Print [AV.lst 2 wb19 wr19]) fun wv21 =>
              Ab.asTup wv21 2 fun wg22 =>
              Ab.asStr (wg22 0) fun ws23 =>
              Ab.asInt (wg22 1) .i64 fun wn24 =>
              optK (br (wn24 == 0)
                  (some (bv (strEq ws23 s1)))
                  (some (bv false))) fun wv25 =>
              Ab.asBool wv25 fun wb26 =>
              some (bv wb26))))
          (optK (K f_uids_Parse [sv s1]) fun wv27 =>
          Ab.asTup wv27 2 fun wg28 =>
          Ab.asLst (wg28 0) 2 fun wb29 wr29 =>
          Ab.asInt (wg28 1) .i64 fun wn30 =>
          br (wn30 != 0)
            (some (bv (((wr29.length : Nat) : Int) == 0)))
            (optK (K f_uids_Print [AV.lst 2 wb29 wr29]) fun wv31 =>
            Ab.asTup wv31 2 fun wg32 =>
            Ab.asStr (wg32 0) fun ws33 =>
            Ab.asInt (wg32 1) .i64 fun wn34 =>
            optK (br (wn34 == 0)
                (some (bv (strEq ws33 s1)))
                (some (bv false))) fun wv35 =>
            Ab.asBool wv35 fun wb36 =>
            some (bv wb36)))))
theorem toplaw09_UidsBack (K : PureK) (l0n : Bool) (l0 : List AV) (s1 : ByteArray) : topK X K 0 f_law09_UidsBack [(.lst 2 l0n l0), (.v (.string s1))] = Rlaw09_UidsBack K l0n l0 s1 := by kernel_rfl
theorem pclaw09_UidsBack {K : PureK} (hK : KOk X K) {l0n : Bool} {l0 : List AV} {s1 : ByteArray} {v : AV} (h : Rlaw09_UidsBack K l0n l0 s1 = some v) : PureCall X f_law09_UidsBack [(.lst 2 l0n l0), (.v (.string s1))] v := by
  have hSo0 := soundX
  exact tell_top (X := X) (Y := X) rfl rfl hSo0 hK ((toplaw09_UidsBack K l0n l0 s1).trans h)

abbrev f_slices_ContainsFunc__right : FuncId := 25
/-! 25: slices.ContainsFunc[[]escheat/api.Range,escheat/api.Range] -/
noncomputable def Rslices_ContainsFunc__right (K : PureK) (s0n : Bool) (s0 : List AV) : Option AV :=
  optK (K f_slices_IndexFunc_api_Range_api_Range [AV.lst 2 s0n s0, AV.fn (Fn.func 38) [] []]) fun wv1 =>
    Ab.asInt wv1 .i64 fun wn2 =>
    some (bv (decide (wn2 ≥ 0)))
theorem topslices_ContainsFunc__right (K : PureK) (s0n : Bool) (s0 : List AV) : topK X K 0 f_slices_ContainsFunc__right [(.lst 2 s0n s0), (.fn (.func 38) [] [])] = Rslices_ContainsFunc__right K s0n s0 := by kernel_rfl
theorem pcslices_ContainsFunc__right {K : PureK} (hK : KOk X K) {s0n : Bool} {s0 : List AV} {v : AV} (h : Rslices_ContainsFunc__right K s0n s0 = some v) : PureCall X f_slices_ContainsFunc__right [(.lst 2 s0n s0), (.fn (.func 38) [] [])] v := by
  have hSo0 := soundX
  exact tell_top (X := X) (Y := X) rfl rfl hSo0 hK ((topslices_ContainsFunc__right K s0n s0).trans h)

abbrev f_slices_IndexFunc__right : FuncId := 40
/-! 40: slices.IndexFunc[[]escheat/api.Range,escheat/api.Range] -/
inductive Sslices_IndexFunc__right_0 where
  | s0 (s0n : Bool) (s0 : List AV) (t7 : Int) (t8 : Int)

inductive Oslices_IndexFunc__right_0 where
  | x0 (t4 : Int)
  | x1

def Oslices_IndexFunc__right_0.k {β : Type} (o : Oslices_IndexFunc__right_0) (c0 : Int → Option β) (c1 : Option β) : Option β := match o with
  | .x0 t4 => c0 t4
  | .x1 => c1

def Eslices_IndexFunc__right_0 : Sslices_IndexFunc__right_0 → Env
  | .s0 s0n s0 t7 t8 => [(.lst 2 s0n s0), (.fn (.func 38) [] []), .dead, .dead, .dead, .dead, .dead, (.v (.int .i64 t7)), (.v (.int .i64 t8)), .dead, .dead, .dead, .dead, .dead, .dead, .dead, .dead, .dead, .dead]

def Hslices_IndexFunc__right_0 : Sslices_IndexFunc__right_0 → Heap
  | .s0 s0n s0 t7 t8 => []

def Tslices_IndexFunc__right_0 {β : Type} (k : Ex → Env → Heap → Option β) (o : Oslices_IndexFunc__right_0) : Option β := Oslices_IndexFunc__right_0.k o (fun t4 => k .ret [.dead, .dead, .dead, .dead, (.v (.int .i64 t4)), .dead, .dead, .dead, .dead, .dead, .dead, .dead, .dead, .dead, .dead, .dead, .dead, .dead, .dead] []) (k (.exit 0) [.dead, .dead, .dead, .dead, .dead, .dead, .dead, .dead, .dead, .dead, .dead, .dead, .dead, .dead, .dead, .dead, .dead, .dead, .dead] [])

def Fslices_IndexFunc__right_0 (lslices_IndexFunc__right_0 : Sslices_IndexFunc__right_0 → Option Oslices_IndexFunc__right_0) : LoopF := ⟨fun e h k => match Nat.beq e.length 19 with
  | true => (match e.getD 0 .dead, e.getD 1 .dead, e.getD 7 .dead, e.getD 8 .dead, h with
    | (.lst 2 s0n s0), (.fn (.func 38) [] []), (.v (.int .i64 t7)), (.v (.int .i64 t8)), [] => optK (lslices_IndexFunc__right_0 (.s0 s0n s0 t7 t8)) (Tslices_IndexFunc__right_0 k)
    | _, _, _, _, _ => none)
  | false => none⟩

def clslices_IndexFunc__right_0 : List Tmp := [2, 3, 4, 5, 6, 9, 10, 11, 12, 13, 14, 15, 16, 17, 18]
def closlices_IndexFunc__right_0 : List Tmp := [0, 1, 2, 3, 5, 6, 7, 8, 9, 10, 11, 12, 13, 14, 15, 16, 17, 18]

noncomputable def Rslices_IndexFunc__right_0 {β : Type} (K : PureK) (d : Oslices_IndexFunc__right_0 → Option β) (r : Sslices_IndexFunc__right_0 → Option β) : Sslices_IndexFunc__right_0 → Option β
  | .s0 s0n s0 t7 t8 =>
    br (decide (t8 < t7))
      (br (decide (0 ≤ t8))
        (br (decide (t8 < ((s0.length : Nat) : Int)))
          (optK s0[t8.toNat]? fun wv1 =>
          Ab.asAgg wv1 2 fun wg2 =>
          Ab.asInt (wg2 0) .i64 fun wn3 =>
          Ab.asInt (wg2 1) .i64 fun wn4 =>
          optK (K f_uids_Right_1 [AV.agg [iv wn3, iv wn4]]) fun wv5 =>
          Ab.asBool wv5 fun wb6 =>
          br wb6
            (d (.x0 t8))
            (r (.s0 s0n s0 t7 (w64 (t8 + 1)))))
          (none))
        (none))
      (d (.x1))
theorem roundslices_IndexFunc__right_0 (K : PureK) {β : Type} (r : Env → Heap → Option β) (k : Ex → Env → Heap → Option β) (s : Sslices_IndexFunc__right_0) : tellOne X K 0 40 0 [(0, 1, 0), (1, 1, 0), (2, 1, 0)] 0 clslices_IndexFunc__right_0 closlices_IndexFunc__right_0 r k (Eslices_IndexFunc__right_0 s) (Hslices_IndexFunc__right_0 s) = Rslices_IndexFunc__right_0 K (Tslices_IndexFunc__right_0 k) (fun s => r (Eslices_IndexFunc__right_0 s) (Hslices_IndexFunc__right_0 s)) s := by
  cases s <;> kernel_rfl
theorem Oslices_IndexFunc__right_0.bind_k {β γ : Type} (o : Oslices_IndexFunc__right_0) (c0 : Int → Option β) (c1 : Option β) (φ : β → Option γ) : (Oslices_IndexFunc__right_0.k o c0 c1).bind φ = Oslices_IndexFunc__right_0.k o (fun t4 => (c0 t4).bind φ) (c1.bind φ) := by cases o <;> rfl
theorem natslices_IndexFunc__right_0 (K : PureK) {β γ : Type} (φ : β → Option γ) (d : Oslices_IndexFunc__right_0 → Option β) (r : Sslices_IndexFunc__right_0 → Option β) (s : Sslices_IndexFunc__right_0) : Rslices_IndexFunc__right_0 K (fun o => (d o).bind φ) (fun s => (r s).bind φ) s = (Rslices_IndexFunc__right_0 K d r s).bind φ := by
  cases s <;> simp only [Rslices_IndexFunc__right_0, bind_optK, bind_br, bind_asInt, bind_asBool, bind_asStr, bind_asLst, bind_asAgg, bind_asTup, bind_asBig, bind_asErr, bind_none]
theorem outslices_IndexFunc__right_0 (o : Oslices_IndexFunc__right_0) : ∃ x e' h', ∀ {β : Type} (k : Ex → Env → Heap → Option β), Tslices_IndexFunc__right_0 k o = k x e' h' := by cases o <;> exact ⟨_, _, _, fun _ => rfl⟩
theorem okslices_IndexFunc__right_0 {K : PureK} (hX : Sound X) (hK : KOk X K) {lslices_IndexFunc__right_0 : Sslices_IndexFunc__right_0 → Option Oslices_IndexFunc__right_0} (hl : ∀ s o, lslices_IndexFunc__right_0 s = some o → ∃ m, fuelRec (Rslices_IndexFunc__right_0 K some) m s = some o) (β : Type) (e : Env) (h : Heap) (k : Ex → Env → Heap → Option β) (r : β) (hr : (Fslices_IndexFunc__right_0 lslices_IndexFunc__right_0).run e h k = some r) : ∃ x e' h', k x e' h' = some r ∧ CodeAt X (.loop (loopBody (X).P 40 0)) e h x e' h' := by
  obtain ⟨fn, c, hin⟩ := loopIn_of (X := X) (f := 40) (i := 0) (key := 2) (by kernel_rfl)
  simp only [Fslices_IndexFunc__right_0] at hr
  split at hr
  · rename_i hlen
    have hlen := Nat.eq_of_beq_eq_true hlen
    split at hr
    · rename_i q0 q1 q7 q8
      obtain ⟨o, ho, hr⟩ := optK_some hr
      refine tell_ok hX (KOk.congr (X := X) (Y := X) rfl rfl hK) hin (E := Eslices_IndexFunc__right_0) (H := Hslices_IndexFunc__right_0) (R := fun d r => Rslices_IndexFunc__right_0 K d r) (T := Tslices_IndexFunc__right_0) (ts := [(0, 1, 0), (1, 1, 0), (2, 1, 0)]) (len := 0) (cl := clslices_IndexFunc__right_0) (clo := closlices_IndexFunc__right_0) (roundslices_IndexFunc__right_0 K) (natslices_IndexFunc__right_0 K) outslices_IndexFunc__right_0 (hl _ _ ho) (cl0 := clslices_IndexFunc__right_0) (ts0 := []) ?_ rfl (by kernel_rfl) (by kernel_rfl) hr
      rw [clear_lit e 19 hlen, show clearEnv clslices_IndexFunc__right_0 ((List.range 19).map fun i => e.getD i .dead) = [e.getD 0 .dead, e.getD 1 .dead, .dead, .dead, .dead, .dead, .dead, e.getD 7 .dead, e.getD 8 .dead, .dead, .dead, .dead, .dead, .dead, .dead, .dead, .dead, .dead, .dead] from by kernel_rfl]; rw [q0, q1, q7, q8]
      kernel_rfl
    · cases hr
  · cases hr
noncomputable def Rslices_IndexFunc__right (K : PureK) (lslices_IndexFunc__right_0 : Sslices_IndexFunc__right_0 → Option Oslices_IndexFunc__right_0) (s0n : Bool) (s0 : List AV) : Option AV :=
  optK (lslices_IndexFunc__right_0 (Sslices_IndexFunc__right_0.s0 s0n s0 (((s0.length : Nat) : Int)) 0)) fun wo1 => Oslices_IndexFunc__right_0.k wo1
      (fun (t4_2 : Int) => some (iv t4_2))
      (some (iv (-1)))
theorem topslices_IndexFunc__right (K : PureK) (lslices_IndexFunc__right_0 : Sslices_IndexFunc__right_0 → Option Oslices_IndexFunc__right_0) (s0n : Bool) (s0 : List AV) : topK (addLp X 40 2 (Fslices_IndexFunc__right_0 lslices_IndexFunc__right_0)) K 0 f_slices_IndexFunc__right [(.lst 2 s0n s0), (.fn (.func 38) [] [])] = Rslices_IndexFunc__right K lslices_IndexFunc__right_0 s0n s0 := by kernel_rfl
theorem pcslices_IndexFunc__right {K : PureK} (hK : KOk X K) {lslices_IndexFunc__right_0 : Sslices_IndexFunc__right_0 → Option Oslices_IndexFunc__right_0} (hslices_IndexFunc__right_0 : ∀ s o, lslices_IndexFunc__right_0 s = some o → ∃ m, fuelRec (Rslices_IndexFunc__right_0 K some) m s = some o) {s0n : Bool} {s0 : List AV} {v : AV} (h : Rslices_IndexFunc__right K lslices_IndexFunc__right_0 s0n s0 = some v) : PureCall X f_slices_IndexFunc__right [(.lst 2 s0n s0), (.fn (.func 38) [] [])] v := by
  have hSo0 := soundX
  obtain ⟨_, _, hin0⟩ := loopIn_of (X := X) (f := 40) (i := 0) (key := 2) (by kernel_rfl)
  have hSo1 := sound_add hSo0 hin0 (okslices_IndexFunc__right_0 hSo0 hK hslices_IndexFunc__right_0)
  exact tell_top (X := X) (Y := (addLp X 40 2 (Fslices_IndexFunc__right_0 lslices_IndexFunc__right_0))) rfl rfl hSo1 hK ((topslices_IndexFunc__right K lslices_IndexFunc__right_0 s0n s0).trans h)

end Go.Proofs.YtckbjhmiopjlkaaDoor
