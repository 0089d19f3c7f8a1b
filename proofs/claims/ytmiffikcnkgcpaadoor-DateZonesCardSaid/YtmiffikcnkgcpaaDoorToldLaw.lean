import Derived.Test.YtmiffikcnkgcpaaDoorCtx
set_option maxRecDepth 100000
set_option linter.unusedVariables false
set_option linter.unusedSimpArgs false
namespace Go.Proofs.YtmiffikcnkgcpaaDoor
open Go Go.Ab
/-! 4: escheat/escheatlaw07.DateBack -/
noncomputable def Rlaw07_DateBack (K : PureK) (t0 : Int) (u1 : Int) : Option AV :=
  optK (K f_law07_alive []) fun wv1 =>
    Ab.asBool wv1 fun wb2 =>
    br (!wb2)
      (some (bv false))
      (optK (K f_date_Print [iv (w64 ((((BitVec.ofInt 64 t0 &&& BitVec.ofInt 64 137438953471).toNat : Nat) : Int)))]) fun wv3 =>
      Ab.asTup wv3 2 fun wg4 =>
      Ab.asStr (wg4 0) fun ws5 =>
      Ab.asInt (wg4 1) .i64 fun wn6 =>
      br (wn6 != 0)
        (optK (br (strEq ws5 ({ data := #[] } : ByteArray))
            (some (bv (decide (w64 ((((BitVec.ofInt 64 t0 &&& BitVec.ofInt 64 137438953471).toNat : Nat) : Int)) > 253402300799))))
            (some (bv false))) fun wv7 =>
        Ab.asBool wv7 fun wb8 =>
        some (bv wb8))
        (optK (K f_date_Parse [sv ws5]) fun wv9 =>
        Ab.asTup wv9 2 fun wg10 =>
        Ab.asInt (wg10 0) .i64 fun wn11 =>
        Ab.asInt (wg10 1) .i64 fun wn12 =>
        optK (K f_date_Day [iv (w64 ((((BitVec.ofInt 64 t0 &&& BitVec.ofInt 64 137438953471).toNat : Nat) : Int)))]) fun wv13 =>
        Ab.asInt wv13 .i64 fun wn14 =>
        optK (K f_date_Civil [iv wn14]) fun wv15 =>
        Ab.asTup wv15 3 fun wg16 =>
        Ab.asInt (wg16 0) .i64 fun wn17 =>
        Ab.asInt (wg16 1) .i64 fun wn18 =>
        Ab.asInt (wg16 2) .i64 fun wn19 =>
        optK (br (wn12 != 0)
            (some (bv true))
            (br (wn11 != w64 ((((BitVec.ofInt 64 t0 &&& BitVec.ofInt 64 137438953471).toNat : Nat) : Int)))
              (some (bv true))
              (optK (K f_date_Number [iv wn17, iv wn18, iv wn19]) fun wv21 =>
              Ab.asInt wv21 .i64 fun wn22 =>
              optK (K f_date_Day [iv (w64 ((((BitVec.ofInt 64 t0 &&& BitVec.ofInt 64 137438953471).toNat : Nat) : Int)))]) fun wv23 =>
              Ab.asInt wv23 .i64 fun wn24 =>
              some (bv (wn22 != wn24))))) fun wv20 =>
        Ab.asBool wv20 fun wb25 =>
        br wb25
          (some (bv false))
          (br (decide (w64 ((((BitVec.ofInt 64 u1 &&& BitVec.ofInt 64 137438953471).toNat : Nat) : Int)) > 253402300799))
            (some (bv true))
            (optK (K f_date_Day [iv (w64 ((((BitVec.ofInt 64 u1 &&& BitVec.ofInt 64 137438953471).toNat : Nat) : Int)))]) fun wv26 =>
            Ab.asInt wv26 .i64 fun wn27 =>
            optK (K f_date_Civil [iv wn27]) fun wv28 =>
            Ab.asTup wv28 3 fun wg29 =>
            Ab.asInt (wg29 0) .i64 fun wn30 =>
            Ab.asInt (wg29 1) .i64 fun wn31 =>
            Ab.asInt (wg29 2) .i64 fun wn32 =>
            optK (br (decide (wn17 < wn30))
                (some (bv true))
                (br (wn17 == wn30)
                  (br (decide (wn18 < wn31))
                    (some (bv true))
                    (br (wn18 == wn31)
                      (some (bv (decide (wn19 < wn32))))
                      (some (bv false))))
                  (some (bv false)))) fun wv33 =>
            Ab.asBool wv33 fun wb34 =>
            optK (K f_date_Day [iv (w64 ((((BitVec.ofInt 64 t0 &&& BitVec.ofInt 64 137438953471).toNat : Nat) : Int)))]) fun wv35 =>
            Ab.asInt wv35 .i64 fun wn36 =>
            optK (K f_date_Day [iv (w64 ((((BitVec.ofInt 64 u1 &&& BitVec.ofInt 64 137438953471).toNat : Nat) : Int)))]) fun wv37 =>
            Ab.asInt wv37 .i64 fun wn38 =>
            some (bv (wb34 == decide (wn36 < wn38)))))))
theorem toplaw07_DateBack (K : PureK) (t0 : Int) (u1 : Int) : topK X K 0 f_law07_DateBack [(.v (.int .i64 t0)), (.v (.int .i64 u1))] = Rlaw07_DateBack K t0 u1 := by kernel_rfl
theorem pclaw07_DateBack {K : PureK} (hK : KOk X K) {t0 : Int} {u1 : Int} {v : AV} (h : Rlaw07_DateBack K t0 u1 = some v) : PureCall X f_law07_DateBack [(.v (.int .i64 t0)), (.v (.int .i64 u1))] v := by
  have hSo0 := soundX
  exact tell_top (X := X) (Y := X) rfl rfl hSo0 hK ((toplaw07_DateBack K t0 u1).trans h)

/-! 3: escheat/escheatlaw07.DateZones -/
inductive Slaw07_DateZones_0 where
  | s0 (t0 : Int) (h7 : Int) (x9 : Int) (f10 : Int) (y11 : Int) (g12 : Int) (i14 : Int) (obj0 : List AV)

inductive Olaw07_DateZones_0 where
  | x0 (t0 : Int) (h7 : Int) (x9 : Int) (f10 : Int) (y11 : Int) (g12 : Int) (obj0 : List AV)

def Olaw07_DateZones_0.k {β : Type} (o : Olaw07_DateZones_0) (c0 : Int → Int → Int → Int → Int → Int → (List AV) → Option β) : Option β := match o with
  | .x0 t0 h7 x9 f10 y11 g12 obj0 => c0 t0 h7 x9 f10 y11 g12 obj0

def Elaw07_DateZones_0 : Slaw07_DateZones_0 → Env
  | .s0 t0 h7 x9 f10 y11 g12 i14 obj0 => [(.v (.int .i64 t0)), .dead, .dead, .dead, .dead, .dead, .dead, (.v (.int .i64 h7)), .dead, (.v (.int .i64 x9)), (.v (.int .i64 f10)), (.v (.int .i64 y11)), (.v (.int .i64 g12)), (.own 0 0 0 none), (.v (.int .i64 i14)), .dead, .dead, .dead, .dead, .dead, .dead, .dead, .dead, .dead, .dead, .dead, .dead, .dead, .dead, .dead, .dead, .dead, .dead, .dead, .dead, .dead, .dead, .dead, .dead, .dead, .dead, .dead, .dead, .dead, .dead, .dead, .dead, .dead, .dead, .dead, .dead, .dead, .dead, .dead, .dead, .dead, .dead, .dead, .dead, .dead, .dead, .dead, .dead, .dead, .dead, .dead, .dead, .dead, .dead, .dead, .dead, .dead, .dead, .dead, .dead, .dead, .dead, .dead, .dead, .dead, .dead, .dead, .dead, .dead, .dead, .dead, .dead, .dead, .dead, .dead, .dead, .dead, .dead, .dead, .dead, .dead, .dead, .dead, .dead, .dead, .dead, .dead, .dead, .dead, .dead, .dead, .dead, .dead, .dead, .dead, .dead, .dead, .dead, .dead, .dead, .dead, .dead, .dead, .dead]

def Hlaw07_DateZones_0 : Slaw07_DateZones_0 → Heap
  | .s0 t0 h7 x9 f10 y11 g12 i14 obj0 => [⟨obj0, 0, 0, true, false, 5, 1, none⟩]

def Tlaw07_DateZones_0 {β : Type} (k : Ex → Env → Heap → Option β) (o : Olaw07_DateZones_0) : Option β := Olaw07_DateZones_0.k o (fun t0 h7 x9 f10 y11 g12 obj0 => k (.exit 0) [(.v (.int .i64 t0)), .dead, .dead, .dead, .dead, .dead, .dead, (.v (.int .i64 h7)), .dead, (.v (.int .i64 x9)), (.v (.int .i64 f10)), (.v (.int .i64 y11)), (.v (.int .i64 g12)), (.own 0 0 0 none), .dead, .dead, .dead, .dead, .dead, .dead, .dead, .dead, .dead, .dead, .dead, .dead, .dead, .dead, .dead, .dead, .dead, .dead, .dead, .dead, .dead, .dead, .dead, .dead, .dead, .dead, .dead, .dead, .dead, .dead, .dead, .dead, .dead, .dead, .dead, .dead, .dead, .dead, .dead, .dead, .dead, .dead, .dead, .dead, .dead, .dead, .dead, .dead, .dead, .dead, .dead, .dead, .dead, .dead, .dead, .dead, .dead, .dead, .dead, .dead, .dead, .dead, .dead, .dead, .dead, .dead, .dead, .dead, .dead, .dead, .dead, .dead, .dead, .dead, .dead, .dead, .dead, .dead, .dead, .dead, .dead, .dead, .dead, .dead, .dead, .dead, .dead, .dead, .dead, .dead, .dead, .dead, .dead, .dead, .dead, .dead, .dead, .dead, .dead, .dead, .dead, .dead, .dead, .dead, .dead] [⟨obj0, 0, 0, true, false, 5, 1, none⟩])

def Flaw07_DateZones_0 (llaw07_DateZones_0 : Slaw07_DateZones_0 → Option Olaw07_DateZones_0) : LoopF := ⟨fun e h k => match Nat.beq e.length 119 with
  | true => (match e.getD 0 .dead, e.getD 7 .dead, e.getD 9 .dead, e.getD 10 .dead, e.getD 11 .dead, e.getD 12 .dead, e.getD 13 .dead, e.getD 14 .dead, h with
    | (.v (.int .i64 t0)), (.v (.int .i64 h7)), (.v (.int .i64 x9)), (.v (.int .i64 f10)), (.v (.int .i64 y11)), (.v (.int .i64 g12)), (.own 0 0 0 none), (.v (.int .i64 i14)), [⟨obj0, 0, 0, true, false, 5, 1, none⟩] => optK (llaw07_DateZones_0 (.s0 t0 h7 x9 f10 y11 g12 i14 obj0)) (Tlaw07_DateZones_0 k)
    | _, _, _, _, _, _, _, _, _ => none)
  | false => none⟩

def cllaw07_DateZones_0 : List Tmp := [1, 2, 3, 4, 5, 6, 8, 15, 16, 17, 18, 19, 20, 21, 22, 23, 24, 25, 26, 27, 28, 29, 30, 31, 32, 33, 34, 35, 36, 37, 38, 39, 40, 41, 42, 43, 44, 45, 46, 47, 48, 49, 50, 51, 52, 53, 54, 55, 56, 57, 58, 59, 60, 61, 62, 63, 64, 65, 66, 67, 68, 69, 70, 71, 72, 73, 74, 75, 76, 77, 78, 79, 80, 81, 82, 83, 84, 85, 86, 87, 88, 89, 90, 91, 92, 93, 94, 95, 96, 97, 98, 99, 100, 101, 102, 103, 104, 105, 106, 107, 108, 109, 110, 111, 112, 113, 114, 115, 116, 117, 118]
def clolaw07_DateZones_0 : List Tmp := [1, 2, 3, 4, 5, 6, 8, 14, 15, 16, 17, 18, 19, 20, 21, 22, 23, 24, 25, 26, 27, 28, 29, 30, 31, 32, 33, 34, 35, 36, 37, 38, 39, 40, 41, 42, 43, 44, 45, 46, 47, 48, 49, 50, 51, 52, 53, 54, 55, 56, 57, 58, 59, 60, 61, 62, 63, 64, 65, 66, 67, 68, 69, 70, 71, 72, 73, 74, 75, 76, 77, 78, 79, 80, 81, 82, 83, 84, 85, 86, 87, 88, 89, 90, 91, 92, 93, 94, 95, 96, 97, 98, 99, 100, 101, 102, 103, 104, 105, 106, 107, 108, 109, 110, 111, 112, 113, 114, 115, 116, 117, 118]

noncomputable def Rlaw07_DateZones_0 {β : Type} (K : PureK) (d : Olaw07_DateZones_0 → Option β) (r : Slaw07_DateZones_0 → Option β) : Slaw07_DateZones_0 → Option β
  | .s0 t0 h7 x9 f10 y11 g12 i14 obj0 =>
    br (decide (i14 < 6))
      (br (decide (0 ≤ i14))
        (br (decide (i14 < ((obj0.length : Nat) : Int)))
          (optK (obj0[0 + i14.toNat]?) fun wv1 =>
          Ab.asInt wv1 .u8 fun wn2 =>
          br (decide (0 ≤ i14))
            (br (decide (i14 < ((obj0.length : Nat) : Int)))
              (r (.s0 t0 h7 x9 f10 y11 g12 (w64 (i14 + 1)) (obj0.set (0 + i14.toNat) (uv (w8 ((((BitVec.ofInt 8 wn2 ^^^ BitVec.ofInt 8 32).toNat : Nat) : Int)))))))
              (none))
            (none))
          (none))
        (none))
      (d (.x0 t0 h7 x9 f10 y11 g12 obj0))
theorem roundlaw07_DateZones_0 (K : PureK) {β : Type} (r : Env → Heap → Option β) (k : Ex → Env → Heap → Option β) (s : Slaw07_DateZones_0) : tellOne X K 0 3 0 [(1, 1, 0), (2, 1, 0), (3, 1, 0)] 1 cllaw07_DateZones_0 clolaw07_DateZones_0 r k (Elaw07_DateZones_0 s) (Hlaw07_DateZones_0 s) = Rlaw07_DateZones_0 K (Tlaw07_DateZones_0 k) (fun s => r (Elaw07_DateZones_0 s) (Hlaw07_DateZones_0 s)) s := by
  cases s <;> kernel_rfl
theorem Olaw07_DateZones_0.bind_k {β γ : Type} (o : Olaw07_DateZones_0) (c0 : Int → Int → Int → Int → Int → Int → (List AV) → Option β) (φ : β → Option γ) : (Olaw07_DateZones_0.k o c0).bind φ = Olaw07_DateZones_0.k o (fun t0 h7 x9 f10 y11 g12 obj0 => (c0 t0 h7 x9 f10 y11 g12 obj0).bind φ) := by cases o <;> rfl
theorem natlaw07_DateZones_0 (K : PureK) {β γ : Type} (φ : β → Option γ) (d : Olaw07_DateZones_0 → Option β) (r : Slaw07_DateZones_0 → Option β) (s : Slaw07_DateZones_0) : Rlaw07_DateZones_0 K (fun o => (d o).bind φ) (fun s => (r s).bind φ) s = (Rlaw07_DateZones_0 K d r s).bind φ := by
  cases s <;> simp only [Rlaw07_DateZones_0, bind_optK, bind_br, bind_asInt, bind_asBool, bind_asStr, bind_asLst, bind_asAgg, bind_asTup, bind_asBig, bind_asErr, bind_none]
theorem outlaw07_DateZones_0 (o : Olaw07_DateZones_0) : ∃ x e' h', ∀ {β : Type} (k : Ex → Env → Heap → Option β), Tlaw07_DateZones_0 k o = k x e' h' := by cases o <;> exact ⟨_, _, _, fun _ => rfl⟩
theorem oklaw07_DateZones_0 {K : PureK} (hX : Sound X) (hK : KOk X K) {llaw07_DateZones_0 : Slaw07_DateZones_0 → Option Olaw07_DateZones_0} (hl : ∀ s o, llaw07_DateZones_0 s = some o → ∃ m, fuelRec (Rlaw07_DateZones_0 K some) m s = some o) (β : Type) (e : Env) (h : Heap) (k : Ex → Env → Heap → Option β) (r : β) (hr : (Flaw07_DateZones_0 llaw07_DateZones_0).run e h k = some r) : ∃ x e' h', k x e' h' = some r ∧ CodeAt X (.loop (loopBody (X).P 3 0)) e h x e' h' := by
  obtain ⟨fn, c, hin⟩ := loopIn_of (X := X) (f := 3) (i := 0) (key := 13) (by kernel_rfl)
  simp only [Flaw07_DateZones_0] at hr
  split at hr
  · rename_i hlen
    have hlen := Nat.eq_of_beq_eq_true hlen
    split at hr
    · rename_i q0 q7 q9 q10 q11 q12 q13 q14
      obtain ⟨o, ho, hr⟩ := optK_some hr
      refine tell_ok hX (KOk.congr (X := X) (Y := X) rfl rfl hK) hin (E := Elaw07_DateZones_0) (H := Hlaw07_DateZones_0) (R := fun d r => Rlaw07_DateZones_0 K d r) (T := Tlaw07_DateZones_0) (ts := [(1, 1, 0), (2, 1, 0), (3, 1, 0)]) (len := 1) (cl := cllaw07_DateZones_0) (clo := clolaw07_DateZones_0) (roundlaw07_DateZones_0 K) (natlaw07_DateZones_0 K) outlaw07_DateZones_0 (hl _ _ ho) (cl0 := cllaw07_DateZones_0) (ts0 := []) ?_ rfl (by kernel_rfl) (by kernel_rfl) hr
      rw [clear_lit e 119 hlen, show clearEnv cllaw07_DateZones_0 ((List.range 119).map fun i => e.getD i .dead) = [e.getD 0 .dead, .dead, .dead, .dead, .dead, .dead, .dead, e.getD 7 .dead, .dead, e.getD 9 .dead, e.getD 10 .dead, e.getD 11 .dead, e.getD 12 .dead, e.getD 13 .dead, e.getD 14 .dead, .dead, .dead, .dead, .dead, .dead, .dead, .dead, .dead, .dead, .dead, .dead, .dead, .dead, .dead, .dead, .dead, .dead, .dead, .dead, .dead, .dead, .dead, .dead, .dead, .dead, .dead, .dead, .dead, .dead, .dead, .dead, .dead, .dead, .dead, .dead, .dead, .dead, .dead, .dead, .dead, .dead, .dead, .dead, .dead, .dead, .dead, .dead, .dead, .dead, .dead, .dead, .dead, .dead, .dead, .dead, .dead, .dead, .dead, .dead, .dead, .dead, .dead, .dead, .dead, .dead, .dead, .dead, .dead, .dead, .dead, .dead, .dead, .dead, .dead, .dead, .dead, .dead, .dead, .dead, .dead, .dead, .dead, .dead, .dead, .dead, .dead, .dead, .dead, .dead, .dead, .dead, .dead, .dead, .dead, .dead, .dead, .dead, .dead, .dead, .dead, .dead, .dead, .dead, .dead] from by kernel_rfl]; rw [q0, q7, q9, q10, q11, q12, q13, q14]
      kernel_rfl
    · cases hr
  · cases hr
noncomputable def Rlaw07_DateZones (K : PureK) (llaw07_DateZones_0 : Slaw07_DateZones_0 → Option Olaw07_DateZones_0) (t0 : Int) (hours1 : Int) : Option AV :=
  optK (K f_law07_alive []) fun wv17 =>
    Ab.asBool wv17 fun wb18 =>
    br (!wb18)
      (some (bv false))
      (optK (K f_date_Print [iv (w64 (1000000 + w64 ((((BitVec.ofInt 64 t0 &&& BitVec.ofInt 64 68719476735).toNat : Nat) : Int))))]) fun wv19 =>
      Ab.asTup wv19 2 fun wg20 =>
      Ab.asStr (wg20 0) fun ws21 =>
      Ab.asInt (wg20 1) .i64 fun wn22 =>
      optK (br (wn22 != 0)
          (some (bv true))
          (some (bv (((ws21.size : Nat) : Int) != 26)))) fun wv23 =>
      Ab.asBool wv23 fun wb24 =>
      br wb24
        (some (bv false))
        (br (decide (21 ≤ ((ws21.size : Nat) : Int)))
          (br (((cutStr ws21 none (some 21)).size + 1).ble maxStr)
            (br (((cutStr ws21 none (some 21) ++ ({ data := #[43] } : ByteArray)).size + ({ data := [UInt8.ofNat (w8 (w64 (48 + ((w64 hours1).tmod 24).tmod 10))).toNat, UInt8.ofNat (w8 (w64 (48 + w64 (((w64 hours1).tmod 24).tdiv 10)))).toNat].reverse.toArray } : ByteArray).size).ble maxStr)
              (br (((cutStr ws21 none (some 21) ++ ({ data := #[43] } : ByteArray) ++ ({ data := [UInt8.ofNat (w8 (w64 (48 + ((w64 hours1).tmod 24).tmod 10))).toNat, UInt8.ofNat (w8 (w64 (48 + w64 (((w64 hours1).tmod 24).tdiv 10)))).toNat].reverse.toArray } : ByteArray)).size + 2).ble maxStr)
                (optK (K f_date_Parse [sv (cutStr ws21 none (some 21) ++ ({ data := #[43] } : ByteArray) ++ ({ data := [UInt8.ofNat (w8 (w64 (48 + ((w64 hours1).tmod 24).tmod 10))).toNat, UInt8.ofNat (w8 (w64 (48 + w64 (((w64 hours1).tmod 24).tdiv 10)))).toNat].reverse.toArray } : ByteArray) ++ ({ data := #[48, 48] } : ByteArray))]) fun wv25 =>
                Ab.asTup wv25 2 fun wg26 =>
                Ab.asInt (wg26 0) .i64 fun wn27 =>
                Ab.asInt (wg26 1) .i64 fun wn28 =>
                br (decide (21 ≤ ((ws21.size : Nat) : Int)))
                  (br (((cutStr ws21 none (some 21)).size + 1).ble maxStr)
                    (br (((cutStr ws21 none (some 21) ++ ({ data := #[45] } : ByteArray)).size + ({ data := [UInt8.ofNat (w8 (w64 (48 + ((w64 hours1).tmod 24).tmod 10))).toNat, UInt8.ofNat (w8 (w64 (48 + w64 (((w64 hours1).tmod 24).tdiv 10)))).toNat].reverse.toArray } : ByteArray).size).ble maxStr)
                      (br (((cutStr ws21 none (some 21) ++ ({ data := #[45] } : ByteArray) ++ ({ data := [UInt8.ofNat (w8 (w64 (48 + ((w64 hours1).tmod 24).tmod 10))).toNat, UInt8.ofNat (w8 (w64 (48 + w64 (((w64 hours1).tmod 24).tdiv 10)))).toNat].reverse.toArray } : ByteArray)).size + 2).ble maxStr)
                        (optK (K f_date_Parse [sv (cutStr ws21 none (some 21) ++ ({ data := #[45] } : ByteArray) ++ ({ data := [UInt8.ofNat (w8 (w64 (48 + ((w64 hours1).tmod 24).tmod 10))).toNat, UInt8.ofNat (w8 (w64 (48 + w64 (((w64 hours1).tmod 24).tdiv 10)))).toNat].reverse.toArray } : ByteArray) ++ ({ data := #[51, 48] } : ByteArray))]) fun wv29 =>
                        Ab.asTup wv29 2 fun wg30 =>
                        Ab.asInt (wg30 0) .i64 fun wn31 =>
                        Ab.asInt (wg30 1) .i64 fun wn32 =>
                        optK (llaw07_DateZones_0 (Slaw07_DateZones_0.s0 (w64 (1000000 + w64 ((((BitVec.ofInt 64 t0 &&& BitVec.ofInt 64 68719476735).toNat : Nat) : Int)))) ((w64 hours1).tmod 24) wn27 wn28 wn31 wn32 3 (bytesRows ws21))) fun wo33 => Olaw07_DateZones_0.k wo33 (fun (t0_34 : Int) (h7_34 : Int) (x9_34 : Int) (f10_34 : Int) (y11_34 : Int) (g12_34 : Int) (obj0_34 : List AV) =>
                        optK (rowsBytes obj0_34) fun wv35 =>
                        optK (K f_date_Parse [sv ({ data := wv35.toArray } : ByteArray)]) fun wv36 =>
                        Ab.asTup wv36 2 fun wg37 =>
                        Ab.asInt (wg37 0) .i64 fun wn38 =>
                        Ab.asInt (wg37 1) .i64 fun wn39 =>
                        optK (br (f10_34 == 0)
                            (br (g12_34 == 0)
                              (br (wn39 == 0)
                                (br (x9_34 == w64 (t0_34 - w64 (3600 * h7_34)))
                                  (br (y11_34 == w64 (w64 (t0_34 + w64 (3600 * h7_34)) + 1800))
                                    (some (bv (wn38 == t0_34)))
                                    (some (bv false)))
                                  (some (bv false)))
                                (some (bv false)))
                              (some (bv false)))
                            (some (bv false))) fun wv40 =>
                        Ab.asBool wv40 fun wb41 =>
                        some (bv wb41)))
                        (none))
                      (none))
                    (none))
                  (none))
                (none))
              (none))
            (none))
          (none)))
theorem toplaw07_DateZones (K : PureK) (llaw07_DateZones_0 : Slaw07_DateZones_0 → Option Olaw07_DateZones_0) (t0 : Int) (hours1 : Int) : topK (addLp X 3 13 (Flaw07_DateZones_0 llaw07_DateZones_0)) K 0 f_law07_DateZones [(.v (.int .i64 t0)), (.v (.int .u8 hours1))] = Rlaw07_DateZones K llaw07_DateZones_0 t0 hours1 := by kernel_rfl
theorem pclaw07_DateZones {K : PureK} (hK : KOk X K) {llaw07_DateZones_0 : Slaw07_DateZones_0 → Option Olaw07_DateZones_0} (hlaw07_DateZones_0 : ∀ s o, llaw07_DateZones_0 s = some o → ∃ m, fuelRec (Rlaw07_DateZones_0 K some) m s = some o) {t0 : Int} {hours1 : Int} {v : AV} (h : Rlaw07_DateZones K llaw07_DateZones_0 t0 hours1 = some v) : PureCall X f_law07_DateZones [(.v (.int .i64 t0)), (.v (.int .u8 hours1))] v := by
  have hSo0 := soundX
  obtain ⟨_, _, hin0⟩ := loopIn_of (X := X) (f := 3) (i := 0) (key := 13) (by kernel_rfl)
  have hSo1 := sound_add hSo0 hin0 (oklaw07_DateZones_0 hSo0 hK hlaw07_DateZones_0)
  exact tell_top (X := X) (Y := (addLp X 3 13 (Flaw07_DateZones_0 llaw07_DateZones_0))) rfl rfl hSo1 hK ((toplaw07_DateZones K llaw07_DateZones_0 t0 hours1).trans h)

end Go.Proofs.YtmiffikcnkgcpaaDoor
