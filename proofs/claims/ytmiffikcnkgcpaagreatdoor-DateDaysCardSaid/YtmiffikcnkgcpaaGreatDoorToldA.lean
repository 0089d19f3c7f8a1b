import Derived.Test.YtmiffikcnkgcpaaGreatDoorCtx
set_option maxRecDepth 100000
set_option linter.unusedVariables false
set_option linter.unusedSimpArgs false
namespace Go.Proofs.YtmiffikcnkgcpaaGreatDoor
open Go Go.Ab
/-! 56: escheat/date.leap -/
def R56 (K : PureK) (y0 : Int) : Option AV :=
  optK (br (y0.tmod 4 == 0)
        (br (y0.tmod 100 != 0)
          (some (bv true))
          (some (bv (y0.tmod 400 == 0))))
        (some (bv (y0.tmod 400 == 0)))) fun wv1 =>
    Ab.asBool wv1 fun wb2 =>
    some (bv wb2)
theorem top56 (K : PureK) (y0 : Int) : topK X K 0 56 [(.v (.int .i64 y0))] = R56 K y0 := by kernel_rfl
theorem pc56 {K : PureK} (hK : KOk X K) {y0 : Int} {v : AV} (h : R56 K y0 = some v) : PureCall X 56 [(.v (.int .i64 y0))] v := by
  have hSo0 := soundX
  exact tell_top (X := X) (Y := X) rfl rfl hSo0 hK ((top56 K y0).trans h)

/-! 57: escheat/escheatref07.leap -/
def R57 (K : PureK) (y0 : Int) : Option AV :=
  optK (br (y0.tmod 4 == 0)
        (br (y0.tmod 100 != 0)
          (some (bv true))
          (some (bv (y0.tmod 400 == 0))))
        (some (bv false))) fun wv1 =>
    Ab.asBool wv1 fun wb2 =>
    some (bv wb2)
theorem top57 (K : PureK) (y0 : Int) : topK X K 0 57 [(.v (.int .i64 y0))] = R57 K y0 := by kernel_rfl
theorem pc57 {K : PureK} (hK : KOk X K) {y0 : Int} {v : AV} (h : R57 K y0 = some v) : PureCall X 57 [(.v (.int .i64 y0))] v := by
  have hSo0 := soundX
  exact tell_top (X := X) (Y := X) rfl rfl hSo0 hK ((top57 K y0).trans h)

/-! 55: escheat/date.leaps -/
def R55 (K : PureK) (y0 : Int) : Option AV :=
  br (y0 == 0)
      (some (iv 0))
      (some (iv (w64 (w64 (w64 (w64 ((w64 (y0 - 1)).tdiv 4) - w64 ((w64 (y0 - 1)).tdiv 100)) + w64 ((w64 (y0 - 1)).tdiv 400)) + 1))))
theorem top55 (K : PureK) (y0 : Int) : topK X K 0 55 [(.v (.int .i64 y0))] = R55 K y0 := by kernel_rfl
theorem pc55 {K : PureK} (hK : KOk X K) {y0 : Int} {v : AV} (h : R55 K y0 = some v) : PureCall X 55 [(.v (.int .i64 y0))] v := by
  have hSo0 := soundX
  exact tell_top (X := X) (Y := X) rfl rfl hSo0 hK ((top55 K y0).trans h)

/-! 39: escheat/date.count -/
def R39 (K : PureK) (y0 : Int) (m1 : Int) (d2 : Int) : Option AV :=
  optK (K 55 [iv y0]) fun wv1 =>
    Ab.asInt wv1 .i64 fun wn2 =>
    optK (K 55 [iv 1970]) fun wv3 =>
    Ab.asInt wv3 .i64 fun wn4 =>
    br (decide (0 ≤ w64 (m1 - 1)))
      (br (decide (w64 (m1 - 1) < 13))
        (optK (gl1[0 + (w64 (m1 - 1)).toNat * 1]?) fun wv5 =>
        Ab.asInt wv5 .i64 fun wn6 =>
        optK (br (decide (m1 > 2))
            (optK (K 56 [iv y0]) fun wv8 =>
            Ab.asBool wv8 fun wb9 =>
            some (bv wb9))
            (some (bv false))) fun wv7 =>
        Ab.asBool wv7 fun wb10 =>
        br wb10
          (some (iv (w64 (w64 (w64 (w64 (w64 (w64 (w64 (w64 (y0 - 1970) * 365) + wn2) - wn4) + wn6) + d2) - 1) + 1))))
          (some (iv (w64 (w64 (w64 (w64 (w64 (w64 (w64 (y0 - 1970) * 365) + wn2) - wn4) + wn6) + d2) - 1)))))
        (none))
      (none)
theorem top39 (K : PureK) (y0 : Int) (m1 : Int) (d2 : Int) : topK X K 0 39 [(.v (.int .i64 y0)), (.v (.int .i64 m1)), (.v (.int .i64 d2))] = R39 K y0 m1 d2 := by kernel_rfl
theorem pc39 {K : PureK} (hK : KOk X K) {y0 : Int} {m1 : Int} {d2 : Int} {v : AV} (h : R39 K y0 m1 d2 = some v) : PureCall X 39 [(.v (.int .i64 y0)), (.v (.int .i64 m1)), (.v (.int .i64 d2))] v := by
  have hSo0 := soundX
  exact tell_top (X := X) (Y := X) rfl rfl hSo0 hK ((top39 K y0 m1 d2).trans h)

/-! 40: escheat/escheatref07.length -/
def R40 (K : PureK) (y0 : Int) : Option AV :=
  optK (K 57 [iv y0]) fun wv1 =>
    Ab.asBool wv1 fun wb2 =>
    br wb2
      (some (iv 366))
      (some (iv 365))
theorem top40 (K : PureK) (y0 : Int) : topK X K 0 40 [(.v (.int .i64 y0))] = R40 K y0 := by kernel_rfl
theorem pc40 {K : PureK} (hK : KOk X K) {y0 : Int} {v : AV} (h : R40 K y0 = some v) : PureCall X 40 [(.v (.int .i64 y0))] v := by
  have hSo0 := soundX
  exact tell_top (X := X) (Y := X) rfl rfl hSo0 hK ((top40 K y0).trans h)

/-! 41: escheat/escheatref07.days -/
def R41 (K : PureK) (y0 : Int) (m1 : Int) : Option AV :=
  br (m1 == 2)
      (optK (K 57 [iv y0]) fun wv1 =>
      Ab.asBool wv1 fun wb2 =>
      br wb2
        (some (iv 29))
        (some (iv 28)))
      (optK (br (m1 == 4)
          (some (bv true))
          (br (m1 == 6)
            (some (bv true))
            (br (m1 == 9)
              (some (bv true))
              (some (bv (m1 == 11)))))) fun wv3 =>
      Ab.asBool wv3 fun wb4 =>
      br wb4
        (some (iv 30))
        (some (iv 31)))
theorem top41 (K : PureK) (y0 : Int) (m1 : Int) : topK X K 0 41 [(.v (.int .i64 y0)), (.v (.int .i64 m1))] = R41 K y0 m1 := by kernel_rfl
theorem pc41 {K : PureK} (hK : KOk X K) {y0 : Int} {m1 : Int} {v : AV} (h : R41 K y0 m1 = some v) : PureCall X 41 [(.v (.int .i64 y0)), (.v (.int .i64 m1))] v := by
  have hSo0 := soundX
  exact tell_top (X := X) (Y := X) rfl rfl hSo0 hK ((top41 K y0 m1).trans h)

/-! 58: escheat/date.days -/
def R58 (K : PureK) (y0 : Int) (m1 : Int) : Option AV :=
  br (decide (0 ≤ m1))
      (br (decide (m1 < 13))
        (optK (gl1[0 + m1.toNat * 1]?) fun wv1 =>
        Ab.asInt wv1 .i64 fun wn2 =>
        br (decide (0 ≤ w64 (m1 - 1)))
          (br (decide (w64 (m1 - 1) < 13))
            (optK (gl1[0 + (w64 (m1 - 1)).toNat * 1]?) fun wv3 =>
            Ab.asInt wv3 .i64 fun wn4 =>
            optK (br (m1 == 2)
                (optK (K 56 [iv y0]) fun wv6 =>
                Ab.asBool wv6 fun wb7 =>
                some (bv wb7))
                (some (bv false))) fun wv5 =>
            Ab.asBool wv5 fun wb8 =>
            br wb8
              (some (iv (w64 (w64 (wn2 - wn4) + 1))))
              (some (iv (w64 (wn2 - wn4)))))
            (none))
          (none))
        (none))
      (none)
theorem top58 (K : PureK) (y0 : Int) (m1 : Int) : topK X K 0 58 [(.v (.int .i64 y0)), (.v (.int .i64 m1))] = R58 K y0 m1 := by kernel_rfl
theorem pc58 {K : PureK} (hK : KOk X K) {y0 : Int} {m1 : Int} {v : AV} (h : R58 K y0 m1 = some v) : PureCall X 58 [(.v (.int .i64 y0)), (.v (.int .i64 m1))] v := by
  have hSo0 := soundX
  exact tell_top (X := X) (Y := X) rfl rfl hSo0 hK ((top58 K y0 m1).trans h)

/-! 42: escheat/date.there -/
def R42 (K : PureK) (y0 : Int) (m1 : Int) (d2 : Int) : Option AV :=
  optK (br (decide (y0 ≥ 0))
        (br (decide (y0 ≤ 9999))
          (br (decide (m1 ≥ 1))
            (br (decide (m1 ≤ 12))
              (br (decide (d2 ≥ 1))
                (optK (K 58 [iv y0, iv m1]) fun wv2 =>
                Ab.asInt wv2 .i64 fun wn3 =>
                some (bv (decide (d2 ≤ wn3))))
                (some (bv false)))
              (some (bv false)))
            (some (bv false)))
          (some (bv false)))
        (some (bv false))) fun wv1 =>
    Ab.asBool wv1 fun wb4 =>
    some (bv wb4)
theorem top42 (K : PureK) (y0 : Int) (m1 : Int) (d2 : Int) : topK X K 0 42 [(.v (.int .i64 y0)), (.v (.int .i64 m1)), (.v (.int .i64 d2))] = R42 K y0 m1 d2 := by kernel_rfl
theorem pc42 {K : PureK} (hK : KOk X K) {y0 : Int} {m1 : Int} {d2 : Int} {v : AV} (h : R42 K y0 m1 d2 = some v) : PureCall X 42 [(.v (.int .i64 y0)), (.v (.int .i64 m1)), (.v (.int .i64 d2))] v := by
  have hSo0 := soundX
  exact tell_top (X := X) (Y := X) rfl rfl hSo0 hK ((top42 K y0 m1 d2).trans h)

/-! 43: escheat/escheatref07.there -/
def R43 (K : PureK) (y0 : Int) (m1 : Int) (d2 : Int) : Option AV :=
  optK (br (decide (y0 ≥ 0))
        (br (decide (y0 ≤ 9999))
          (br (decide (m1 ≥ 1))
            (br (decide (m1 ≤ 12))
              (br (decide (d2 ≥ 1))
                (optK (K 41 [iv y0, iv m1]) fun wv2 =>
                Ab.asInt wv2 .i64 fun wn3 =>
                some (bv (decide (d2 ≤ wn3))))
                (some (bv false)))
              (some (bv false)))
            (some (bv false)))
          (some (bv false)))
        (some (bv false))) fun wv1 =>
    Ab.asBool wv1 fun wb4 =>
    some (bv wb4)
theorem top43 (K : PureK) (y0 : Int) (m1 : Int) (d2 : Int) : topK X K 0 43 [(.v (.int .i64 y0)), (.v (.int .i64 m1)), (.v (.int .i64 d2))] = R43 K y0 m1 d2 := by kernel_rfl
theorem pc43 {K : PureK} (hK : KOk X K) {y0 : Int} {m1 : Int} {d2 : Int} {v : AV} (h : R43 K y0 m1 d2 = some v) : PureCall X 43 [(.v (.int .i64 y0)), (.v (.int .i64 m1)), (.v (.int .i64 d2))] v := by
  have hSo0 := soundX
  exact tell_top (X := X) (Y := X) rfl rfl hSo0 hK ((top43 K y0 m1 d2).trans h)

/-! 16: escheat/date.Civil -/
inductive S16_0 where
  | s0 (day0 : Int) (year2 : Int)

inductive O16_0 where
  | x0 (day0 : Int) (year2 : Int)

def O16_0.k {β : Type} (o : O16_0) (c0 : Int → Int → Option β) : Option β := match o with
  | .x0 day0 year2 => c0 day0 year2

def E16_0 : S16_0 → Env
  | .s0 day0 year2 => [(.v (.int .i64 day0)), .dead, (.v (.int .i64 year2)), .dead, .dead, .dead, .dead, .dead, .dead, .dead, .dead, .dead, .dead, .dead, .dead, .dead, .dead, .dead, .dead, .dead, .dead, .dead, .dead, .dead, .dead, .dead, .dead, .dead, .dead, .dead, .dead, .dead, .dead, .dead, .dead, .dead, .dead, .dead, .dead, .dead, .dead, .dead, .dead, .dead, .dead]

def H16_0 : S16_0 → Heap
  | .s0 day0 year2 => []

def T16_0 {β : Type} (k : Ex → Env → Heap → Option β) (o : O16_0) : Option β := O16_0.k o (fun day0 year2 => k (.exit 0) [(.v (.int .i64 day0)), .dead, (.v (.int .i64 year2)), .dead, .dead, .dead, .dead, .dead, .dead, .dead, .dead, .dead, .dead, .dead, .dead, .dead, .dead, .dead, .dead, .dead, .dead, .dead, .dead, .dead, .dead, .dead, .dead, .dead, .dead, .dead, .dead, .dead, .dead, .dead, .dead, .dead, .dead, .dead, .dead, .dead, .dead, .dead, .dead, .dead, .dead] [])

def F16_0 (l16_0 : S16_0 → Option O16_0) : LoopF := ⟨fun e h k => match Nat.beq e.length 45 with
  | true => (match e.getD 0 .dead, e.getD 2 .dead, h with
    | (.v (.int .i64 day0)), (.v (.int .i64 year2)), [] => optK (l16_0 (.s0 day0 year2)) (T16_0 k)
    | _, _, _ => none)
  | false => none⟩

def cl16_0 : List Tmp := [1, 3, 4, 5, 6, 7, 8, 9, 10, 11, 12, 13, 14, 15, 16, 17, 18, 19, 20, 21, 22, 23, 24, 25, 26, 27, 28, 29, 30, 31, 32, 33, 34, 35, 36, 37, 38, 39, 40, 41, 42, 43, 44]
def clo16_0 : List Tmp := [1, 3, 4, 5, 6, 7, 8, 9, 10, 11, 12, 13, 14, 15, 16, 17, 18, 19, 20, 21, 22, 23, 24, 25, 26, 27, 28, 29, 30, 31, 32, 33, 34, 35, 36, 37, 38, 39, 40, 41, 42, 43, 44]

def R16_0 {β : Type} (K : PureK) (d : O16_0 → Option β) (r : S16_0 → Option β) : S16_0 → Option β
  | .s0 day0 year2 =>
    optK (br (decide (year2 < 9999))
        (optK (K 39 [iv (w64 (year2 + 1)), iv 1, iv 1]) fun wv2 =>
        Ab.asInt wv2 .i64 fun wn3 =>
        some (bv (decide (wn3 ≤ day0))))
        (some (bv false))) fun wv1 =>
    Ab.asBool wv1 fun wb4 =>
    br wb4
      (r (.s0 day0 (w64 (year2 + 1))))
      (d (.x0 day0 year2))
theorem round16_0 (K : PureK) {β : Type} (r : Env → Heap → Option β) (k : Ex → Env → Heap → Option β) (s : S16_0) : tellOne X K 0 16 0 [(0, 1, 1), (1, 1, 1), (2, 1, 1)] 0 cl16_0 clo16_0 r k (E16_0 s) (H16_0 s) = R16_0 K (T16_0 k) (fun s => r (E16_0 s) (H16_0 s)) s := by
  cases s <;> kernel_rfl
theorem O16_0.bind_k {β γ : Type} (o : O16_0) (c0 : Int → Int → Option β) (φ : β → Option γ) : (O16_0.k o c0).bind φ = O16_0.k o (fun day0 year2 => (c0 day0 year2).bind φ) := by cases o <;> rfl
theorem nat16_0 (K : PureK) {β γ : Type} (φ : β → Option γ) (d : O16_0 → Option β) (r : S16_0 → Option β) (s : S16_0) : R16_0 K (fun o => (d o).bind φ) (fun s => (r s).bind φ) s = (R16_0 K d r s).bind φ := by
  cases s <;> simp only [R16_0, bind_optK, bind_br, bind_asInt, bind_asBool, bind_asStr, bind_asLst, bind_asAgg, bind_asTup, bind_none]
theorem out16_0 (o : O16_0) : ∃ x e' h', ∀ {β : Type} (k : Ex → Env → Heap → Option β), T16_0 k o = k x e' h' := by cases o <;> exact ⟨_, _, _, fun _ => rfl⟩
theorem ok16_0 {K : PureK} (hX : Sound X) (hK : KOk X K) {l16_0 : S16_0 → Option O16_0} (hl : ∀ s o, l16_0 s = some o → ∃ m, fuelRec (R16_0 K some) m s = some o) (β : Type) (e : Env) (h : Heap) (k : Ex → Env → Heap → Option β) (r : β) (hr : (F16_0 l16_0).run e h k = some r) : ∃ x e' h', k x e' h' = some r ∧ CodeAt X (.loop (loopBody (X).P 16 0)) e h x e' h' := by
  obtain ⟨fn, c, hin⟩ := loopIn_of (X := X) (f := 16) (i := 0) (key := 4) (by kernel_rfl)
  simp only [F16_0] at hr
  split at hr
  · rename_i hlen
    have hlen := Nat.eq_of_beq_eq_true hlen
    split at hr
    · rename_i q0 q2
      obtain ⟨o, ho, hr⟩ := optK_some hr
      refine tell_ok hX (KOk.congr (X := X) (Y := X) rfl rfl hK) hin (E := E16_0) (H := H16_0) (R := fun d r => R16_0 K d r) (T := T16_0) (ts := [(0, 1, 1), (1, 1, 1), (2, 1, 1)]) (len := 0) (cl := cl16_0) (clo := clo16_0) (round16_0 K) (nat16_0 K) out16_0 (hl _ _ ho) (cl0 := cl16_0) ?_ rfl (by kernel_rfl) hr
      rw [clear_lit e 45 hlen, show clearEnv cl16_0 ((List.range 45).map fun i => e.getD i .dead) = [e.getD 0 .dead, .dead, e.getD 2 .dead, .dead, .dead, .dead, .dead, .dead, .dead, .dead, .dead, .dead, .dead, .dead, .dead, .dead, .dead, .dead, .dead, .dead, .dead, .dead, .dead, .dead, .dead, .dead, .dead, .dead, .dead, .dead, .dead, .dead, .dead, .dead, .dead, .dead, .dead, .dead, .dead, .dead, .dead, .dead, .dead, .dead, .dead] from by kernel_rfl]; rw [q0, q2]
      kernel_rfl
    · cases hr
  · cases hr
inductive S16_1 where
  | s0 (day0 : Int) (year2 : Int) (month3 : Int)

inductive O16_1 where
  | x0 (day0 : Int) (year2 : Int) (month3 : Int)

def O16_1.k {β : Type} (o : O16_1) (c0 : Int → Int → Int → Option β) : Option β := match o with
  | .x0 day0 year2 month3 => c0 day0 year2 month3

def E16_1 : S16_1 → Env
  | .s0 day0 year2 month3 => [(.v (.int .i64 day0)), .dead, (.v (.int .i64 year2)), (.v (.int .i64 month3)), .dead, .dead, .dead, .dead, .dead, .dead, .dead, .dead, .dead, .dead, .dead, .dead, .dead, .dead, .dead, .dead, .dead, .dead, .dead, .dead, .dead, .dead, .dead, .dead, .dead, .dead, .dead, .dead, .dead, .dead, .dead, .dead, .dead, .dead, .dead, .dead, .dead, .dead, .dead, .dead, .dead]

def H16_1 : S16_1 → Heap
  | .s0 day0 year2 month3 => []

def T16_1 {β : Type} (k : Ex → Env → Heap → Option β) (o : O16_1) : Option β := O16_1.k o (fun day0 year2 month3 => k (.exit 2) [(.v (.int .i64 day0)), .dead, (.v (.int .i64 year2)), (.v (.int .i64 month3)), .dead, .dead, .dead, .dead, .dead, .dead, .dead, .dead, .dead, .dead, .dead, .dead, .dead, .dead, .dead, .dead, .dead, .dead, .dead, .dead, .dead, .dead, .dead, .dead, .dead, .dead, .dead, .dead, .dead, .dead, .dead, .dead, .dead, .dead, .dead, .dead, .dead, .dead, .dead, .dead, .dead] [])

def F16_1 (l16_1 : S16_1 → Option O16_1) : LoopF := ⟨fun e h k => match Nat.beq e.length 45 with
  | true => (match e.getD 0 .dead, e.getD 2 .dead, e.getD 3 .dead, h with
    | (.v (.int .i64 day0)), (.v (.int .i64 year2)), (.v (.int .i64 month3)), [] => optK (l16_1 (.s0 day0 year2 month3)) (T16_1 k)
    | _, _, _, _ => none)
  | false => none⟩

def cl16_1 : List Tmp := [1, 4, 5, 6, 7, 8, 9, 10, 11, 12, 13, 14, 15, 16, 17, 18, 19, 20, 21, 22, 23, 24, 25, 26, 27, 28, 29, 30, 31, 32, 33, 34, 35, 36, 37, 38, 39, 40, 41, 42, 43, 44]
def clo16_1 : List Tmp := [1, 4, 5, 6, 7, 8, 9, 10, 11, 12, 13, 14, 15, 16, 17, 18, 19, 20, 21, 22, 23, 24, 25, 26, 27, 28, 29, 30, 31, 32, 33, 34, 35, 36, 37, 38, 39, 40, 41, 42, 43, 44]

def R16_1 {β : Type} (K : PureK) (d : O16_1 → Option β) (r : S16_1 → Option β) : S16_1 → Option β
  | .s0 day0 year2 month3 =>
    optK (br (decide (month3 < 12))
        (optK (K 39 [iv year2, iv (w64 (month3 + 1)), iv 1]) fun wv2 =>
        Ab.asInt wv2 .i64 fun wn3 =>
        some (bv (decide (wn3 ≤ day0))))
        (some (bv false))) fun wv1 =>
    Ab.asBool wv1 fun wb4 =>
    br wb4
      (r (.s0 day0 year2 (w64 (month3 + 1))))
      (d (.x0 day0 year2 month3))
theorem round16_1 (K : PureK) (l16_0 : S16_0 → Option O16_0) {β : Type} (r : Env → Heap → Option β) (k : Ex → Env → Heap → Option β) (s : S16_1) : tellOne (addLp X 16 4 (F16_0 l16_0)) K 0 16 1 [(0, 1, 1), (1, 1, 1), (2, 1, 1)] 0 cl16_1 clo16_1 r k (E16_1 s) (H16_1 s) = R16_1 K (T16_1 k) (fun s => r (E16_1 s) (H16_1 s)) s := by
  cases s <;> kernel_rfl
theorem O16_1.bind_k {β γ : Type} (o : O16_1) (c0 : Int → Int → Int → Option β) (φ : β → Option γ) : (O16_1.k o c0).bind φ = O16_1.k o (fun day0 year2 month3 => (c0 day0 year2 month3).bind φ) := by cases o <;> rfl
theorem nat16_1 (K : PureK) {β γ : Type} (φ : β → Option γ) (d : O16_1 → Option β) (r : S16_1 → Option β) (s : S16_1) : R16_1 K (fun o => (d o).bind φ) (fun s => (r s).bind φ) s = (R16_1 K d r s).bind φ := by
  cases s <;> simp only [R16_1, bind_optK, bind_br, bind_asInt, bind_asBool, bind_asStr, bind_asLst, bind_asAgg, bind_asTup, bind_none]
theorem out16_1 (o : O16_1) : ∃ x e' h', ∀ {β : Type} (k : Ex → Env → Heap → Option β), T16_1 k o = k x e' h' := by cases o <;> exact ⟨_, _, _, fun _ => rfl⟩
theorem ok16_1 {K : PureK} (l16_0 : S16_0 → Option O16_0) (hX : Sound (addLp X 16 4 (F16_0 l16_0))) (hK : KOk X K) {l16_1 : S16_1 → Option O16_1} (hl : ∀ s o, l16_1 s = some o → ∃ m, fuelRec (R16_1 K some) m s = some o) (β : Type) (e : Env) (h : Heap) (k : Ex → Env → Heap → Option β) (r : β) (hr : (F16_1 l16_1).run e h k = some r) : ∃ x e' h', k x e' h' = some r ∧ CodeAt (addLp X 16 4 (F16_0 l16_0)) (.loop (loopBody ((addLp X 16 4 (F16_0 l16_0))).P 16 1)) e h x e' h' := by
  obtain ⟨fn, c, hin⟩ := loopIn_of (X := (addLp X 16 4 (F16_0 l16_0))) (f := 16) (i := 1) (key := 7) (by kernel_rfl)
  simp only [F16_1] at hr
  split at hr
  · rename_i hlen
    have hlen := Nat.eq_of_beq_eq_true hlen
    split at hr
    · rename_i q0 q2 q3
      obtain ⟨o, ho, hr⟩ := optK_some hr
      refine tell_ok hX (KOk.congr (X := X) (Y := (addLp X 16 4 (F16_0 l16_0))) rfl rfl hK) hin (E := E16_1) (H := H16_1) (R := fun d r => R16_1 K d r) (T := T16_1) (ts := [(0, 1, 1), (1, 1, 1), (2, 1, 1)]) (len := 0) (cl := cl16_1) (clo := clo16_1) (round16_1 K l16_0) (nat16_1 K) out16_1 (hl _ _ ho) (cl0 := cl16_1) ?_ rfl (by kernel_rfl) hr
      rw [clear_lit e 45 hlen, show clearEnv cl16_1 ((List.range 45).map fun i => e.getD i .dead) = [e.getD 0 .dead, .dead, e.getD 2 .dead, e.getD 3 .dead, .dead, .dead, .dead, .dead, .dead, .dead, .dead, .dead, .dead, .dead, .dead, .dead, .dead, .dead, .dead, .dead, .dead, .dead, .dead, .dead, .dead, .dead, .dead, .dead, .dead, .dead, .dead, .dead, .dead, .dead, .dead, .dead, .dead, .dead, .dead, .dead, .dead, .dead, .dead, .dead, .dead] from by kernel_rfl]; rw [q0, q2, q3]
      kernel_rfl
    · cases hr
  · cases hr
def R16 (K : PureK) (l16_0 : S16_0 → Option O16_0) (l16_1 : S16_1 → Option O16_1) (day0 : Int) : Option AV :=
  optK (br (decide (day0 < 0))
        (some (bv true))
        (some (bv (decide (day0 > 2932896))))) fun wv7 =>
    Ab.asBool wv7 fun wb8 =>
    br wb8
      (some (AV.tup [iv 0, iv 0, iv 0]))
      (optK (l16_0 (S16_0.s0 day0 (w64 (1970 + w64 (day0.tdiv 366))))) fun wo9 => O16_0.k wo9 (fun (day0_10 : Int) (year2_10 : Int) =>
      optK (l16_1 (S16_1.s0 day0_10 year2_10 1)) fun wo11 => O16_1.k wo11 (fun (day0_12 : Int) (year2_12 : Int) (month3_12 : Int) =>
      optK (K 39 [iv year2_12, iv month3_12, iv 1]) fun wv13 =>
      Ab.asInt wv13 .i64 fun wn14 =>
      some (AV.tup [iv year2_12, iv month3_12, iv (w64 (w64 (day0_12 - wn14) + 1))]))))
theorem top16 (K : PureK) (l16_0 : S16_0 → Option O16_0) (l16_1 : S16_1 → Option O16_1) (day0 : Int) : topK (addLp (addLp X 16 4 (F16_0 l16_0)) 16 7 (F16_1 l16_1)) K 0 16 [(.v (.int .i64 day0))] = R16 K l16_0 l16_1 day0 := by kernel_rfl
theorem pc16 {K : PureK} (hK : KOk X K) {l16_0 : S16_0 → Option O16_0} {l16_1 : S16_1 → Option O16_1} (h16_0 : ∀ s o, l16_0 s = some o → ∃ m, fuelRec (R16_0 K some) m s = some o) (h16_1 : ∀ s o, l16_1 s = some o → ∃ m, fuelRec (R16_1 K some) m s = some o) {day0 : Int} {v : AV} (h : R16 K l16_0 l16_1 day0 = some v) : PureCall X 16 [(.v (.int .i64 day0))] v := by
  have hSo0 := soundX
  obtain ⟨_, _, hin0⟩ := loopIn_of (X := X) (f := 16) (i := 0) (key := 4) (by kernel_rfl)
  have hSo1 := sound_add hSo0 hin0 (ok16_0 hSo0 hK h16_0)
  obtain ⟨_, _, hin1⟩ := loopIn_of (X := (addLp X 16 4 (F16_0 l16_0))) (f := 16) (i := 1) (key := 7) (by kernel_rfl)
  have hSo2 := sound_add hSo1 hin1 (ok16_1 l16_0 hSo1 hK h16_1)
  exact tell_top (X := X) (Y := (addLp (addLp X 16 4 (F16_0 l16_0)) 16 7 (F16_1 l16_1))) rfl rfl hSo2 hK ((top16 K l16_0 l16_1 day0).trans h)

/-! 17: escheat/escheatref07.Civil -/
inductive S17_0 where
  | s0 (day0 : Int) (y5 : Int) (m6 : Int)

inductive O17_0 where
  | x0 (day0 : Int) (y5 : Int) (m6 : Int)

def O17_0.k {β : Type} (o : O17_0) (c0 : Int → Int → Int → Option β) : Option β := match o with
  | .x0 day0 y5 m6 => c0 day0 y5 m6

def E17_0 : S17_0 → Env
  | .s0 day0 y5 m6 => [(.v (.int .i64 day0)), .dead, .dead, .dead, .dead, (.v (.int .i64 y5)), (.v (.int .i64 m6)), .dead, .dead, .dead, .dead, .dead, .dead, .dead, .dead, .dead, .dead, .dead, .dead, .dead, .dead, .dead, .dead, .dead, .dead, .dead, .dead, .dead, .dead, .dead, .dead, .dead, .dead, .dead, .dead, .dead, .dead, .dead, .dead]

def H17_0 : S17_0 → Heap
  | .s0 day0 y5 m6 => []

def T17_0 {β : Type} (k : Ex → Env → Heap → Option β) (o : O17_0) : Option β := O17_0.k o (fun day0 y5 m6 => k (.exit 0) [(.v (.int .i64 day0)), .dead, .dead, .dead, .dead, (.v (.int .i64 y5)), (.v (.int .i64 m6)), .dead, .dead, .dead, .dead, .dead, .dead, .dead, .dead, .dead, .dead, .dead, .dead, .dead, .dead, .dead, .dead, .dead, .dead, .dead, .dead, .dead, .dead, .dead, .dead, .dead, .dead, .dead, .dead, .dead, .dead, .dead, .dead] [])

def F17_0 (l17_0 : S17_0 → Option O17_0) : LoopF := ⟨fun e h k => match Nat.beq e.length 39 with
  | true => (match e.getD 0 .dead, e.getD 5 .dead, e.getD 6 .dead, h with
    | (.v (.int .i64 day0)), (.v (.int .i64 y5)), (.v (.int .i64 m6)), [] => optK (l17_0 (.s0 day0 y5 m6)) (T17_0 k)
    | _, _, _, _ => none)
  | false => none⟩

def cl17_0 : List Tmp := [1, 2, 3, 4, 7, 8, 9, 10, 11, 12, 13, 14, 15, 16, 17, 18, 19, 20, 21, 22, 23, 24, 25, 26, 27, 28, 29, 30, 31, 32, 33, 34, 35, 36, 37, 38]
def clo17_0 : List Tmp := [1, 2, 3, 4, 7, 8, 9, 10, 11, 12, 13, 14, 15, 16, 17, 18, 19, 20, 21, 22, 23, 24, 25, 26, 27, 28, 29, 30, 31, 32, 33, 34, 35, 36, 37, 38]

def R17_0 {β : Type} (K : PureK) (d : O17_0 → Option β) (r : S17_0 → Option β) : S17_0 → Option β
  | .s0 day0 y5 m6 =>
    optK (K 40 [iv y5]) fun wv1 =>
    Ab.asInt wv1 .i64 fun wn2 =>
    br (decide (day0 ≥ wn2))
      (optK (K 40 [iv y5]) fun wv3 =>
      Ab.asInt wv3 .i64 fun wn4 =>
      r (.s0 (w64 (day0 - wn4)) (w64 (y5 + 1)) m6))
      (d (.x0 day0 y5 m6))
theorem round17_0 (K : PureK) {β : Type} (r : Env → Heap → Option β) (k : Ex → Env → Heap → Option β) (s : S17_0) : tellOne X K 0 17 0 [(0, 1, 1), (1, 1, 1), (2, 1, 1)] 0 cl17_0 clo17_0 r k (E17_0 s) (H17_0 s) = R17_0 K (T17_0 k) (fun s => r (E17_0 s) (H17_0 s)) s := by
  cases s <;> kernel_rfl
theorem O17_0.bind_k {β γ : Type} (o : O17_0) (c0 : Int → Int → Int → Option β) (φ : β → Option γ) : (O17_0.k o c0).bind φ = O17_0.k o (fun day0 y5 m6 => (c0 day0 y5 m6).bind φ) := by cases o <;> rfl
theorem nat17_0 (K : PureK) {β γ : Type} (φ : β → Option γ) (d : O17_0 → Option β) (r : S17_0 → Option β) (s : S17_0) : R17_0 K (fun o => (d o).bind φ) (fun s => (r s).bind φ) s = (R17_0 K d r s).bind φ := by
  cases s <;> simp only [R17_0, bind_optK, bind_br, bind_asInt, bind_asBool, bind_asStr, bind_asLst, bind_asAgg, bind_asTup, bind_none]
theorem out17_0 (o : O17_0) : ∃ x e' h', ∀ {β : Type} (k : Ex → Env → Heap → Option β), T17_0 k o = k x e' h' := by cases o <;> exact ⟨_, _, _, fun _ => rfl⟩
theorem ok17_0 {K : PureK} (hX : Sound X) (hK : KOk X K) {l17_0 : S17_0 → Option O17_0} (hl : ∀ s o, l17_0 s = some o → ∃ m, fuelRec (R17_0 K some) m s = some o) (β : Type) (e : Env) (h : Heap) (k : Ex → Env → Heap → Option β) (r : β) (hr : (F17_0 l17_0).run e h k = some r) : ∃ x e' h', k x e' h' = some r ∧ CodeAt X (.loop (loopBody (X).P 17 0)) e h x e' h' := by
  obtain ⟨fn, c, hin⟩ := loopIn_of (X := X) (f := 17) (i := 0) (key := 4) (by kernel_rfl)
  simp only [F17_0] at hr
  split at hr
  · rename_i hlen
    have hlen := Nat.eq_of_beq_eq_true hlen
    split at hr
    · rename_i q0 q5 q6
      obtain ⟨o, ho, hr⟩ := optK_some hr
      refine tell_ok hX (KOk.congr (X := X) (Y := X) rfl rfl hK) hin (E := E17_0) (H := H17_0) (R := fun d r => R17_0 K d r) (T := T17_0) (ts := [(0, 1, 1), (1, 1, 1), (2, 1, 1)]) (len := 0) (cl := cl17_0) (clo := clo17_0) (round17_0 K) (nat17_0 K) out17_0 (hl _ _ ho) (cl0 := cl17_0) ?_ rfl (by kernel_rfl) hr
      rw [clear_lit e 39 hlen, show clearEnv cl17_0 ((List.range 39).map fun i => e.getD i .dead) = [e.getD 0 .dead, .dead, .dead, .dead, .dead, e.getD 5 .dead, e.getD 6 .dead, .dead, .dead, .dead, .dead, .dead, .dead, .dead, .dead, .dead, .dead, .dead, .dead, .dead, .dead, .dead, .dead, .dead, .dead, .dead, .dead, .dead, .dead, .dead, .dead, .dead, .dead, .dead, .dead, .dead, .dead, .dead, .dead] from by kernel_rfl]; rw [q0, q5, q6]
      kernel_rfl
    · cases hr
  · cases hr
inductive S17_1 where
  | s0 (day0 : Int) (y5 : Int) (m6 : Int)

inductive O17_1 where
  | x0 (day0 : Int) (y5 : Int) (m6 : Int)

def O17_1.k {β : Type} (o : O17_1) (c0 : Int → Int → Int → Option β) : Option β := match o with
  | .x0 day0 y5 m6 => c0 day0 y5 m6

def E17_1 : S17_1 → Env
  | .s0 day0 y5 m6 => [(.v (.int .i64 day0)), .dead, .dead, .dead, .dead, (.v (.int .i64 y5)), (.v (.int .i64 m6)), .dead, .dead, .dead, .dead, .dead, .dead, .dead, .dead, .dead, .dead, .dead, .dead, .dead, .dead, .dead, .dead, .dead, .dead, .dead, .dead, .dead, .dead, .dead, .dead, .dead, .dead, .dead, .dead, .dead, .dead, .dead, .dead]

def H17_1 : S17_1 → Heap
  | .s0 day0 y5 m6 => []

def T17_1 {β : Type} (k : Ex → Env → Heap → Option β) (o : O17_1) : Option β := O17_1.k o (fun day0 y5 m6 => k (.exit 2) [(.v (.int .i64 day0)), .dead, .dead, .dead, .dead, (.v (.int .i64 y5)), (.v (.int .i64 m6)), .dead, .dead, .dead, .dead, .dead, .dead, .dead, .dead, .dead, .dead, .dead, .dead, .dead, .dead, .dead, .dead, .dead, .dead, .dead, .dead, .dead, .dead, .dead, .dead, .dead, .dead, .dead, .dead, .dead, .dead, .dead, .dead] [])

def F17_1 (l17_1 : S17_1 → Option O17_1) : LoopF := ⟨fun e h k => match Nat.beq e.length 39 with
  | true => (match e.getD 0 .dead, e.getD 5 .dead, e.getD 6 .dead, h with
    | (.v (.int .i64 day0)), (.v (.int .i64 y5)), (.v (.int .i64 m6)), [] => optK (l17_1 (.s0 day0 y5 m6)) (T17_1 k)
    | _, _, _, _ => none)
  | false => none⟩

def cl17_1 : List Tmp := [1, 2, 3, 4, 7, 8, 9, 10, 11, 12, 13, 14, 15, 16, 17, 18, 19, 20, 21, 22, 23, 24, 25, 26, 27, 28, 29, 30, 31, 32, 33, 34, 35, 36, 37, 38]
def clo17_1 : List Tmp := [1, 2, 3, 4, 7, 8, 9, 10, 11, 12, 13, 14, 15, 16, 17, 18, 19, 20, 21, 22, 23, 24, 25, 26, 27, 28, 29, 30, 31, 32, 33, 34, 35, 36, 37, 38]

def R17_1 {β : Type} (K : PureK) (d : O17_1 → Option β) (r : S17_1 → Option β) : S17_1 → Option β
  | .s0 day0 y5 m6 =>
    optK (K 41 [iv y5, iv m6]) fun wv1 =>
    Ab.asInt wv1 .i64 fun wn2 =>
    br (decide (day0 ≥ wn2))
      (optK (K 41 [iv y5, iv m6]) fun wv3 =>
      Ab.asInt wv3 .i64 fun wn4 =>
      r (.s0 (w64 (day0 - wn4)) y5 (w64 (m6 + 1))))
      (d (.x0 day0 y5 m6))
theorem round17_1 (K : PureK) (l17_0 : S17_0 → Option O17_0) {β : Type} (r : Env → Heap → Option β) (k : Ex → Env → Heap → Option β) (s : S17_1) : tellOne (addLp X 17 4 (F17_0 l17_0)) K 0 17 1 [(0, 1, 1), (1, 1, 1), (2, 1, 1)] 0 cl17_1 clo17_1 r k (E17_1 s) (H17_1 s) = R17_1 K (T17_1 k) (fun s => r (E17_1 s) (H17_1 s)) s := by
  cases s <;> kernel_rfl
theorem O17_1.bind_k {β γ : Type} (o : O17_1) (c0 : Int → Int → Int → Option β) (φ : β → Option γ) : (O17_1.k o c0).bind φ = O17_1.k o (fun day0 y5 m6 => (c0 day0 y5 m6).bind φ) := by cases o <;> rfl
theorem nat17_1 (K : PureK) {β γ : Type} (φ : β → Option γ) (d : O17_1 → Option β) (r : S17_1 → Option β) (s : S17_1) : R17_1 K (fun o => (d o).bind φ) (fun s => (r s).bind φ) s = (R17_1 K d r s).bind φ := by
  cases s <;> simp only [R17_1, bind_optK, bind_br, bind_asInt, bind_asBool, bind_asStr, bind_asLst, bind_asAgg, bind_asTup, bind_none]
theorem out17_1 (o : O17_1) : ∃ x e' h', ∀ {β : Type} (k : Ex → Env → Heap → Option β), T17_1 k o = k x e' h' := by cases o <;> exact ⟨_, _, _, fun _ => rfl⟩
theorem ok17_1 {K : PureK} (l17_0 : S17_0 → Option O17_0) (hX : Sound (addLp X 17 4 (F17_0 l17_0))) (hK : KOk X K) {l17_1 : S17_1 → Option O17_1} (hl : ∀ s o, l17_1 s = some o → ∃ m, fuelRec (R17_1 K some) m s = some o) (β : Type) (e : Env) (h : Heap) (k : Ex → Env → Heap → Option β) (r : β) (hr : (F17_1 l17_1).run e h k = some r) : ∃ x e' h', k x e' h' = some r ∧ CodeAt (addLp X 17 4 (F17_0 l17_0)) (.loop (loopBody ((addLp X 17 4 (F17_0 l17_0))).P 17 1)) e h x e' h' := by
  obtain ⟨fn, c, hin⟩ := loopIn_of (X := (addLp X 17 4 (F17_0 l17_0))) (f := 17) (i := 1) (key := 7) (by kernel_rfl)
  simp only [F17_1] at hr
  split at hr
  · rename_i hlen
    have hlen := Nat.eq_of_beq_eq_true hlen
    split at hr
    · rename_i q0 q5 q6
      obtain ⟨o, ho, hr⟩ := optK_some hr
      refine tell_ok hX (KOk.congr (X := X) (Y := (addLp X 17 4 (F17_0 l17_0))) rfl rfl hK) hin (E := E17_1) (H := H17_1) (R := fun d r => R17_1 K d r) (T := T17_1) (ts := [(0, 1, 1), (1, 1, 1), (2, 1, 1)]) (len := 0) (cl := cl17_1) (clo := clo17_1) (round17_1 K l17_0) (nat17_1 K) out17_1 (hl _ _ ho) (cl0 := cl17_1) ?_ rfl (by kernel_rfl) hr
      rw [clear_lit e 39 hlen, show clearEnv cl17_1 ((List.range 39).map fun i => e.getD i .dead) = [e.getD 0 .dead, .dead, .dead, .dead, .dead, e.getD 5 .dead, e.getD 6 .dead, .dead, .dead, .dead, .dead, .dead, .dead, .dead, .dead, .dead, .dead, .dead, .dead, .dead, .dead, .dead, .dead, .dead, .dead, .dead, .dead, .dead, .dead, .dead, .dead, .dead, .dead, .dead, .dead, .dead, .dead, .dead, .dead] from by kernel_rfl]; rw [q0, q5, q6]
      kernel_rfl
    · cases hr
  · cases hr
def R17 (K : PureK) (l17_0 : S17_0 → Option O17_0) (l17_1 : S17_1 → Option O17_1) (day0 : Int) : Option AV :=
  optK (br (decide (day0 < 0))
        (some (bv true))
        (some (bv (decide (day0 > 2932896))))) fun wv7 =>
    Ab.asBool wv7 fun wb8 =>
    br wb8
      (some (AV.tup [iv 0, iv 0, iv 0]))
      (optK (l17_0 (S17_0.s0 day0 1970 1)) fun wo9 => O17_0.k wo9 (fun (day0_10 : Int) (y5_10 : Int) (m6_10 : Int) =>
      optK (l17_1 (S17_1.s0 day0_10 y5_10 m6_10)) fun wo11 => O17_1.k wo11 (fun (day0_12 : Int) (y5_12 : Int) (m6_12 : Int) =>
      some (AV.tup [iv y5_12, iv m6_12, iv (w64 (day0_12 + 1))]))))
theorem top17 (K : PureK) (l17_0 : S17_0 → Option O17_0) (l17_1 : S17_1 → Option O17_1) (day0 : Int) : topK (addLp (addLp X 17 4 (F17_0 l17_0)) 17 7 (F17_1 l17_1)) K 0 17 [(.v (.int .i64 day0))] = R17 K l17_0 l17_1 day0 := by kernel_rfl
theorem pc17 {K : PureK} (hK : KOk X K) {l17_0 : S17_0 → Option O17_0} {l17_1 : S17_1 → Option O17_1} (h17_0 : ∀ s o, l17_0 s = some o → ∃ m, fuelRec (R17_0 K some) m s = some o) (h17_1 : ∀ s o, l17_1 s = some o → ∃ m, fuelRec (R17_1 K some) m s = some o) {day0 : Int} {v : AV} (h : R17 K l17_0 l17_1 day0 = some v) : PureCall X 17 [(.v (.int .i64 day0))] v := by
  have hSo0 := soundX
  obtain ⟨_, _, hin0⟩ := loopIn_of (X := X) (f := 17) (i := 0) (key := 4) (by kernel_rfl)
  have hSo1 := sound_add hSo0 hin0 (ok17_0 hSo0 hK h17_0)
  obtain ⟨_, _, hin1⟩ := loopIn_of (X := (addLp X 17 4 (F17_0 l17_0))) (f := 17) (i := 1) (key := 7) (by kernel_rfl)
  have hSo2 := sound_add hSo1 hin1 (ok17_1 l17_0 hSo1 hK h17_1)
  exact tell_top (X := X) (Y := (addLp (addLp X 17 4 (F17_0 l17_0)) 17 7 (F17_1 l17_1))) rfl rfl hSo2 hK ((top17 K l17_0 l17_1 day0).trans h)

/-! 44: escheat/escheatref07.number -/
inductive S44_0 where
  | s0 (y0 : Int) (m1 : Int) (n7 : Int) (i8 : Int)

inductive O44_0 where
  | x0 (y0 : Int) (n7 : Int)

def O44_0.k {β : Type} (o : O44_0) (c0 : Int → Int → Option β) : Option β := match o with
  | .x0 y0 n7 => c0 y0 n7

def E44_0 : S44_0 → Env
  | .s0 y0 m1 n7 i8 => [(.v (.int .i64 y0)), (.v (.int .i64 m1)), .dead, .dead, .dead, .dead, .dead, (.v (.int .i64 n7)), (.v (.int .i64 i8)), .dead, .dead, .dead, .dead, .dead, .dead, .dead, .dead, .dead, .dead, .dead, .dead, .dead, .dead, .dead, .dead, .dead, .dead, .dead, .dead, .dead, .dead, .dead, .dead, .dead, .dead, .dead, .dead, .dead, .dead, .dead, .dead, .dead]

def H44_0 : S44_0 → Heap
  | .s0 y0 m1 n7 i8 => []

def T44_0 {β : Type} (k : Ex → Env → Heap → Option β) (o : O44_0) : Option β := O44_0.k o (fun y0 n7 => k (.exit 0) [(.v (.int .i64 y0)), .dead, .dead, .dead, .dead, .dead, .dead, (.v (.int .i64 n7)), .dead, .dead, .dead, .dead, .dead, .dead, .dead, .dead, .dead, .dead, .dead, .dead, .dead, .dead, .dead, .dead, .dead, .dead, .dead, .dead, .dead, .dead, .dead, .dead, .dead, .dead, .dead, .dead, .dead, .dead, .dead, .dead, .dead, .dead] [])

def F44_0 (l44_0 : S44_0 → Option O44_0) : LoopF := ⟨fun e h k => match Nat.beq e.length 42 with
  | true => (match e.getD 0 .dead, e.getD 1 .dead, e.getD 7 .dead, e.getD 8 .dead, h with
    | (.v (.int .i64 y0)), (.v (.int .i64 m1)), (.v (.int .i64 n7)), (.v (.int .i64 i8)), [] => optK (l44_0 (.s0 y0 m1 n7 i8)) (T44_0 k)
    | _, _, _, _, _ => none)
  | false => none⟩

def cl44_0 : List Tmp := [2, 3, 4, 5, 6, 9, 10, 11, 12, 13, 14, 15, 16, 17, 18, 19, 20, 21, 22, 23, 24, 25, 26, 27, 28, 29, 30, 31, 32, 33, 34, 35, 36, 37, 38, 39, 40, 41]
def clo44_0 : List Tmp := [1, 2, 3, 4, 5, 6, 8, 9, 10, 11, 12, 13, 14, 15, 16, 17, 18, 19, 20, 21, 22, 23, 24, 25, 26, 27, 28, 29, 30, 31, 32, 33, 34, 35, 36, 37, 38, 39, 40, 41]

def R44_0 {β : Type} (K : PureK) (d : O44_0 → Option β) (r : S44_0 → Option β) : S44_0 → Option β
  | .s0 y0 m1 n7 i8 =>
    br (decide (i8 < m1))
      (optK (K 41 [iv y0, iv i8]) fun wv1 =>
      Ab.asInt wv1 .i64 fun wn2 =>
      r (.s0 y0 m1 (w64 (n7 + wn2)) (w64 (i8 + 1))))
      (d (.x0 y0 n7))
theorem round44_0 (K : PureK) {β : Type} (r : Env → Heap → Option β) (k : Ex → Env → Heap → Option β) (s : S44_0) : tellOne X K 0 44 0 [(0, 1, 1), (1, 1, 1), (2, 1, 1)] 0 cl44_0 clo44_0 r k (E44_0 s) (H44_0 s) = R44_0 K (T44_0 k) (fun s => r (E44_0 s) (H44_0 s)) s := by
  cases s <;> kernel_rfl
theorem O44_0.bind_k {β γ : Type} (o : O44_0) (c0 : Int → Int → Option β) (φ : β → Option γ) : (O44_0.k o c0).bind φ = O44_0.k o (fun y0 n7 => (c0 y0 n7).bind φ) := by cases o <;> rfl
theorem nat44_0 (K : PureK) {β γ : Type} (φ : β → Option γ) (d : O44_0 → Option β) (r : S44_0 → Option β) (s : S44_0) : R44_0 K (fun o => (d o).bind φ) (fun s => (r s).bind φ) s = (R44_0 K d r s).bind φ := by
  cases s <;> simp only [R44_0, bind_optK, bind_br, bind_asInt, bind_asBool, bind_asStr, bind_asLst, bind_asAgg, bind_asTup, bind_none]
theorem out44_0 (o : O44_0) : ∃ x e' h', ∀ {β : Type} (k : Ex → Env → Heap → Option β), T44_0 k o = k x e' h' := by cases o <;> exact ⟨_, _, _, fun _ => rfl⟩
theorem ok44_0 {K : PureK} (hX : Sound X) (hK : KOk X K) {l44_0 : S44_0 → Option O44_0} (hl : ∀ s o, l44_0 s = some o → ∃ m, fuelRec (R44_0 K some) m s = some o) (β : Type) (e : Env) (h : Heap) (k : Ex → Env → Heap → Option β) (r : β) (hr : (F44_0 l44_0).run e h k = some r) : ∃ x e' h', k x e' h' = some r ∧ CodeAt X (.loop (loopBody (X).P 44 0)) e h x e' h' := by
  obtain ⟨fn, c, hin⟩ := loopIn_of (X := X) (f := 44) (i := 0) (key := 3) (by kernel_rfl)
  simp only [F44_0] at hr
  split at hr
  · rename_i hlen
    have hlen := Nat.eq_of_beq_eq_true hlen
    split at hr
    · rename_i q0 q1 q7 q8
      obtain ⟨o, ho, hr⟩ := optK_some hr
      refine tell_ok hX (KOk.congr (X := X) (Y := X) rfl rfl hK) hin (E := E44_0) (H := H44_0) (R := fun d r => R44_0 K d r) (T := T44_0) (ts := [(0, 1, 1), (1, 1, 1), (2, 1, 1)]) (len := 0) (cl := cl44_0) (clo := clo44_0) (round44_0 K) (nat44_0 K) out44_0 (hl _ _ ho) (cl0 := cl44_0) ?_ rfl (by kernel_rfl) hr
      rw [clear_lit e 42 hlen, show clearEnv cl44_0 ((List.range 42).map fun i => e.getD i .dead) = [e.getD 0 .dead, e.getD 1 .dead, .dead, .dead, .dead, .dead, .dead, e.getD 7 .dead, e.getD 8 .dead, .dead, .dead, .dead, .dead, .dead, .dead, .dead, .dead, .dead, .dead, .dead, .dead, .dead, .dead, .dead, .dead, .dead, .dead, .dead, .dead, .dead, .dead, .dead, .dead, .dead, .dead, .dead, .dead, .dead, .dead, .dead, .dead, .dead] from by kernel_rfl]; rw [q0, q1, q7, q8]
      kernel_rfl
    · cases hr
  · cases hr
inductive S44_1 where
  | s0 (y0 : Int) (n7 : Int) (i9 : Int)

inductive O44_1 where
  | x0 (y0 : Int) (n7 : Int)

def O44_1.k {β : Type} (o : O44_1) (c0 : Int → Int → Option β) : Option β := match o with
  | .x0 y0 n7 => c0 y0 n7

def E44_1 : S44_1 → Env
  | .s0 y0 n7 i9 => [(.v (.int .i64 y0)), .dead, .dead, .dead, .dead, .dead, .dead, (.v (.int .i64 n7)), .dead, (.v (.int .i64 i9)), .dead, .dead, .dead, .dead, .dead, .dead, .dead, .dead, .dead, .dead, .dead, .dead, .dead, .dead, .dead, .dead, .dead, .dead, .dead, .dead, .dead, .dead, .dead, .dead, .dead, .dead, .dead, .dead, .dead, .dead, .dead, .dead]

def H44_1 : S44_1 → Heap
  | .s0 y0 n7 i9 => []

def T44_1 {β : Type} (k : Ex → Env → Heap → Option β) (o : O44_1) : Option β := O44_1.k o (fun y0 n7 => k (.exit 2) [(.v (.int .i64 y0)), .dead, .dead, .dead, .dead, .dead, .dead, (.v (.int .i64 n7)), .dead, .dead, .dead, .dead, .dead, .dead, .dead, .dead, .dead, .dead, .dead, .dead, .dead, .dead, .dead, .dead, .dead, .dead, .dead, .dead, .dead, .dead, .dead, .dead, .dead, .dead, .dead, .dead, .dead, .dead, .dead, .dead, .dead, .dead] [])

def F44_1 (l44_1 : S44_1 → Option O44_1) : LoopF := ⟨fun e h k => match Nat.beq e.length 42 with
  | true => (match e.getD 0 .dead, e.getD 7 .dead, e.getD 9 .dead, h with
    | (.v (.int .i64 y0)), (.v (.int .i64 n7)), (.v (.int .i64 i9)), [] => optK (l44_1 (.s0 y0 n7 i9)) (T44_1 k)
    | _, _, _, _ => none)
  | false => none⟩

def cl44_1 : List Tmp := [1, 2, 3, 4, 5, 6, 8, 10, 11, 12, 13, 14, 15, 16, 17, 18, 19, 20, 21, 22, 23, 24, 25, 26, 27, 28, 29, 30, 31, 32, 33, 34, 35, 36, 37, 38, 39, 40, 41]
def clo44_1 : List Tmp := [1, 2, 3, 4, 5, 6, 8, 9, 10, 11, 12, 13, 14, 15, 16, 17, 18, 19, 20, 21, 22, 23, 24, 25, 26, 27, 28, 29, 30, 31, 32, 33, 34, 35, 36, 37, 38, 39, 40, 41]

def R44_1 {β : Type} (K : PureK) (d : O44_1 → Option β) (r : S44_1 → Option β) : S44_1 → Option β
  | .s0 y0 n7 i9 =>
    br (decide (i9 < y0))
      (optK (K 40 [iv i9]) fun wv1 =>
      Ab.asInt wv1 .i64 fun wn2 =>
      r (.s0 y0 (w64 (n7 + wn2)) (w64 (i9 + 1))))
      (d (.x0 y0 n7))
theorem round44_1 (K : PureK) (l44_0 : S44_0 → Option O44_0) {β : Type} (r : Env → Heap → Option β) (k : Ex → Env → Heap → Option β) (s : S44_1) : tellOne (addLp X 44 3 (F44_0 l44_0)) K 0 44 1 [(0, 1, 1), (1, 1, 1), (2, 1, 1)] 0 cl44_1 clo44_1 r k (E44_1 s) (H44_1 s) = R44_1 K (T44_1 k) (fun s => r (E44_1 s) (H44_1 s)) s := by
  cases s <;> kernel_rfl
theorem O44_1.bind_k {β γ : Type} (o : O44_1) (c0 : Int → Int → Option β) (φ : β → Option γ) : (O44_1.k o c0).bind φ = O44_1.k o (fun y0 n7 => (c0 y0 n7).bind φ) := by cases o <;> rfl
theorem nat44_1 (K : PureK) {β γ : Type} (φ : β → Option γ) (d : O44_1 → Option β) (r : S44_1 → Option β) (s : S44_1) : R44_1 K (fun o => (d o).bind φ) (fun s => (r s).bind φ) s = (R44_1 K d r s).bind φ := by
  cases s <;> simp only [R44_1, bind_optK, bind_br, bind_asInt, bind_asBool, bind_asStr, bind_asLst, bind_asAgg, bind_asTup, bind_none]
theorem out44_1 (o : O44_1) : ∃ x e' h', ∀ {β : Type} (k : Ex → Env → Heap → Option β), T44_1 k o = k x e' h' := by cases o <;> exact ⟨_, _, _, fun _ => rfl⟩
theorem ok44_1 {K : PureK} (l44_0 : S44_0 → Option O44_0) (hX : Sound (addLp X 44 3 (F44_0 l44_0))) (hK : KOk X K) {l44_1 : S44_1 → Option O44_1} (hl : ∀ s o, l44_1 s = some o → ∃ m, fuelRec (R44_1 K some) m s = some o) (β : Type) (e : Env) (h : Heap) (k : Ex → Env → Heap → Option β) (r : β) (hr : (F44_1 l44_1).run e h k = some r) : ∃ x e' h', k x e' h' = some r ∧ CodeAt (addLp X 44 3 (F44_0 l44_0)) (.loop (loopBody ((addLp X 44 3 (F44_0 l44_0))).P 44 1)) e h x e' h' := by
  obtain ⟨fn, c, hin⟩ := loopIn_of (X := (addLp X 44 3 (F44_0 l44_0))) (f := 44) (i := 1) (key := 7) (by kernel_rfl)
  simp only [F44_1] at hr
  split at hr
  · rename_i hlen
    have hlen := Nat.eq_of_beq_eq_true hlen
    split at hr
    · rename_i q0 q7 q9
      obtain ⟨o, ho, hr⟩ := optK_some hr
      refine tell_ok hX (KOk.congr (X := X) (Y := (addLp X 44 3 (F44_0 l44_0))) rfl rfl hK) hin (E := E44_1) (H := H44_1) (R := fun d r => R44_1 K d r) (T := T44_1) (ts := [(0, 1, 1), (1, 1, 1), (2, 1, 1)]) (len := 0) (cl := cl44_1) (clo := clo44_1) (round44_1 K l44_0) (nat44_1 K) out44_1 (hl _ _ ho) (cl0 := cl44_1) ?_ rfl (by kernel_rfl) hr
      rw [clear_lit e 42 hlen, show clearEnv cl44_1 ((List.range 42).map fun i => e.getD i .dead) = [e.getD 0 .dead, .dead, .dead, .dead, .dead, .dead, .dead, e.getD 7 .dead, .dead, e.getD 9 .dead, .dead, .dead, .dead, .dead, .dead, .dead, .dead, .dead, .dead, .dead, .dead, .dead, .dead, .dead, .dead, .dead, .dead, .dead, .dead, .dead, .dead, .dead, .dead, .dead, .dead, .dead, .dead, .dead, .dead, .dead, .dead, .dead] from by kernel_rfl]; rw [q0, q7, q9]
      kernel_rfl
    · cases hr
  · cases hr
inductive S44_2 where
  | s0 (n7 : Int) (i10 : Int)

inductive O44_2 where
  | x0 (n7 : Int)

def O44_2.k {β : Type} (o : O44_2) (c0 : Int → Option β) : Option β := match o with
  | .x0 n7 => c0 n7

def E44_2 : S44_2 → Env
  | .s0 n7 i10 => [.dead, .dead, .dead, .dead, .dead, .dead, .dead, (.v (.int .i64 n7)), .dead, .dead, (.v (.int .i64 i10)), .dead, .dead, .dead, .dead, .dead, .dead, .dead, .dead, .dead, .dead, .dead, .dead, .dead, .dead, .dead, .dead, .dead, .dead, .dead, .dead, .dead, .dead, .dead, .dead, .dead, .dead, .dead, .dead, .dead, .dead, .dead]

def H44_2 : S44_2 → Heap
  | .s0 n7 i10 => []

def T44_2 {β : Type} (k : Ex → Env → Heap → Option β) (o : O44_2) : Option β := O44_2.k o (fun n7 => k (.exit 4) [.dead, .dead, .dead, .dead, .dead, .dead, .dead, (.v (.int .i64 n7)), .dead, .dead, .dead, .dead, .dead, .dead, .dead, .dead, .dead, .dead, .dead, .dead, .dead, .dead, .dead, .dead, .dead, .dead, .dead, .dead, .dead, .dead, .dead, .dead, .dead, .dead, .dead, .dead, .dead, .dead, .dead, .dead, .dead, .dead] [])

def F44_2 (l44_2 : S44_2 → Option O44_2) : LoopF := ⟨fun e h k => match Nat.beq e.length 42 with
  | true => (match e.getD 7 .dead, e.getD 10 .dead, h with
    | (.v (.int .i64 n7)), (.v (.int .i64 i10)), [] => optK (l44_2 (.s0 n7 i10)) (T44_2 k)
    | _, _, _ => none)
  | false => none⟩

def cl44_2 : List Tmp := [0, 1, 2, 3, 4, 5, 6, 8, 9, 11, 12, 13, 14, 15, 16, 17, 18, 19, 20, 21, 22, 23, 24, 25, 26, 27, 28, 29, 30, 31, 32, 33, 34, 35, 36, 37, 38, 39, 40, 41]
def clo44_2 : List Tmp := [0, 1, 2, 3, 4, 5, 6, 8, 9, 10, 11, 12, 13, 14, 15, 16, 17, 18, 19, 20, 21, 22, 23, 24, 25, 26, 27, 28, 29, 30, 31, 32, 33, 34, 35, 36, 37, 38, 39, 40, 41]

def R44_2 {β : Type} (K : PureK) (d : O44_2 → Option β) (r : S44_2 → Option β) : S44_2 → Option β
  | .s0 n7 i10 =>
    br (decide (i10 < 1970))
      (optK (K 40 [iv i10]) fun wv1 =>
      Ab.asInt wv1 .i64 fun wn2 =>
      r (.s0 (w64 (n7 - wn2)) (w64 (i10 + 1))))
      (d (.x0 n7))
theorem round44_2 (K : PureK) (l44_0 : S44_0 → Option O44_0) (l44_1 : S44_1 → Option O44_1) {β : Type} (r : Env → Heap → Option β) (k : Ex → Env → Heap → Option β) (s : S44_2) : tellOne (addLp (addLp X 44 3 (F44_0 l44_0)) 44 7 (F44_1 l44_1)) K 0 44 2 [(0, 1, 1), (1, 1, 1), (2, 1, 1)] 0 cl44_2 clo44_2 r k (E44_2 s) (H44_2 s) = R44_2 K (T44_2 k) (fun s => r (E44_2 s) (H44_2 s)) s := by
  cases s <;> kernel_rfl
theorem O44_2.bind_k {β γ : Type} (o : O44_2) (c0 : Int → Option β) (φ : β → Option γ) : (O44_2.k o c0).bind φ = O44_2.k o (fun n7 => (c0 n7).bind φ) := by cases o <;> rfl
theorem nat44_2 (K : PureK) {β γ : Type} (φ : β → Option γ) (d : O44_2 → Option β) (r : S44_2 → Option β) (s : S44_2) : R44_2 K (fun o => (d o).bind φ) (fun s => (r s).bind φ) s = (R44_2 K d r s).bind φ := by
  cases s <;> simp only [R44_2, bind_optK, bind_br, bind_asInt, bind_asBool, bind_asStr, bind_asLst, bind_asAgg, bind_asTup, bind_none]
theorem out44_2 (o : O44_2) : ∃ x e' h', ∀ {β : Type} (k : Ex → Env → Heap → Option β), T44_2 k o = k x e' h' := by cases o <;> exact ⟨_, _, _, fun _ => rfl⟩
theorem ok44_2 {K : PureK} (l44_0 : S44_0 → Option O44_0) (l44_1 : S44_1 → Option O44_1) (hX : Sound (addLp (addLp X 44 3 (F44_0 l44_0)) 44 7 (F44_1 l44_1))) (hK : KOk X K) {l44_2 : S44_2 → Option O44_2} (hl : ∀ s o, l44_2 s = some o → ∃ m, fuelRec (R44_2 K some) m s = some o) (β : Type) (e : Env) (h : Heap) (k : Ex → Env → Heap → Option β) (r : β) (hr : (F44_2 l44_2).run e h k = some r) : ∃ x e' h', k x e' h' = some r ∧ CodeAt (addLp (addLp X 44 3 (F44_0 l44_0)) 44 7 (F44_1 l44_1)) (.loop (loopBody ((addLp (addLp X 44 3 (F44_0 l44_0)) 44 7 (F44_1 l44_1))).P 44 2)) e h x e' h' := by
  obtain ⟨fn, c, hin⟩ := loopIn_of (X := (addLp (addLp X 44 3 (F44_0 l44_0)) 44 7 (F44_1 l44_1))) (f := 44) (i := 2) (key := 11) (by kernel_rfl)
  simp only [F44_2] at hr
  split at hr
  · rename_i hlen
    have hlen := Nat.eq_of_beq_eq_true hlen
    split at hr
    · rename_i q7 q10
      obtain ⟨o, ho, hr⟩ := optK_some hr
      refine tell_ok hX (KOk.congr (X := X) (Y := (addLp (addLp X 44 3 (F44_0 l44_0)) 44 7 (F44_1 l44_1))) rfl rfl hK) hin (E := E44_2) (H := H44_2) (R := fun d r => R44_2 K d r) (T := T44_2) (ts := [(0, 1, 1), (1, 1, 1), (2, 1, 1)]) (len := 0) (cl := cl44_2) (clo := clo44_2) (round44_2 K l44_0 l44_1) (nat44_2 K) out44_2 (hl _ _ ho) (cl0 := cl44_2) ?_ rfl (by kernel_rfl) hr
      rw [clear_lit e 42 hlen, show clearEnv cl44_2 ((List.range 42).map fun i => e.getD i .dead) = [.dead, .dead, .dead, .dead, .dead, .dead, .dead, e.getD 7 .dead, .dead, .dead, e.getD 10 .dead, .dead, .dead, .dead, .dead, .dead, .dead, .dead, .dead, .dead, .dead, .dead, .dead, .dead, .dead, .dead, .dead, .dead, .dead, .dead, .dead, .dead, .dead, .dead, .dead, .dead, .dead, .dead, .dead, .dead, .dead, .dead] from by kernel_rfl]; rw [q7, q10]
      kernel_rfl
    · cases hr
  · cases hr
def R44 (K : PureK) (l44_0 : S44_0 → Option O44_0) (l44_1 : S44_1 → Option O44_1) (l44_2 : S44_2 → Option O44_2) (y0 : Int) (m1 : Int) (d2 : Int) : Option AV :=
  optK (l44_0 (S44_0.s0 y0 m1 (w64 (d2 - 1)) 1)) fun wo7 => O44_0.k wo7 (fun (y0_8 : Int) (n7_8 : Int) =>
    optK (l44_1 (S44_1.s0 y0_8 n7_8 1970)) fun wo9 => O44_1.k wo9 (fun (y0_10 : Int) (n7_10 : Int) =>
    optK (l44_2 (S44_2.s0 n7_10 y0_10)) fun wo11 => O44_2.k wo11 (fun (n7_12 : Int) =>
    some (iv n7_12))))
theorem top44 (K : PureK) (l44_0 : S44_0 → Option O44_0) (l44_1 : S44_1 → Option O44_1) (l44_2 : S44_2 → Option O44_2) (y0 : Int) (m1 : Int) (d2 : Int) : topK (addLp (addLp (addLp X 44 3 (F44_0 l44_0)) 44 7 (F44_1 l44_1)) 44 11 (F44_2 l44_2)) K 0 44 [(.v (.int .i64 y0)), (.v (.int .i64 m1)), (.v (.int .i64 d2))] = R44 K l44_0 l44_1 l44_2 y0 m1 d2 := by kernel_rfl
theorem pc44 {K : PureK} (hK : KOk X K) {l44_0 : S44_0 → Option O44_0} {l44_1 : S44_1 → Option O44_1} {l44_2 : S44_2 → Option O44_2} (h44_0 : ∀ s o, l44_0 s = some o → ∃ m, fuelRec (R44_0 K some) m s = some o) (h44_1 : ∀ s o, l44_1 s = some o → ∃ m, fuelRec (R44_1 K some) m s = some o) (h44_2 : ∀ s o, l44_2 s = some o → ∃ m, fuelRec (R44_2 K some) m s = some o) {y0 : Int} {m1 : Int} {d2 : Int} {v : AV} (h : R44 K l44_0 l44_1 l44_2 y0 m1 d2 = some v) : PureCall X 44 [(.v (.int .i64 y0)), (.v (.int .i64 m1)), (.v (.int .i64 d2))] v := by
  have hSo0 := soundX
  obtain ⟨_, _, hin0⟩ := loopIn_of (X := X) (f := 44) (i := 0) (key := 3) (by kernel_rfl)
  have hSo1 := sound_add hSo0 hin0 (ok44_0 hSo0 hK h44_0)
  obtain ⟨_, _, hin1⟩ := loopIn_of (X := (addLp X 44 3 (F44_0 l44_0))) (f := 44) (i := 1) (key := 7) (by kernel_rfl)
  have hSo2 := sound_add hSo1 hin1 (ok44_1 l44_0 hSo1 hK h44_1)
  obtain ⟨_, _, hin2⟩ := loopIn_of (X := (addLp (addLp X 44 3 (F44_0 l44_0)) 44 7 (F44_1 l44_1))) (f := 44) (i := 2) (key := 11) (by kernel_rfl)
  have hSo3 := sound_add hSo2 hin2 (ok44_2 l44_0 l44_1 hSo2 hK h44_2)
  exact tell_top (X := X) (Y := (addLp (addLp (addLp X 44 3 (F44_0 l44_0)) 44 7 (F44_1 l44_1)) 44 11 (F44_2 l44_2))) rfl rfl hSo3 hK ((top44 K l44_0 l44_1 l44_2 y0 m1 d2).trans h)

/-! 18: escheat/date.Number -/
def R18 (K : PureK) (year0 : Int) (month1 : Int) (dom2 : Int) : Option AV :=
  optK (br (decide (year0 < 1970))
        (some (bv true))
        (optK (K 42 [iv year0, iv month1, iv dom2]) fun wv2 =>
        Ab.asBool wv2 fun wb3 =>
        some (bv !wb3))) fun wv1 =>
    Ab.asBool wv1 fun wb4 =>
    br wb4
      (some (iv (-1)))
      (optK (K 39 [iv year0, iv month1, iv dom2]) fun wv5 =>
      Ab.asInt wv5 .i64 fun wn6 =>
      some (iv wn6))
theorem top18 (K : PureK) (year0 : Int) (month1 : Int) (dom2 : Int) : topK X K 0 18 [(.v (.int .i64 year0)), (.v (.int .i64 month1)), (.v (.int .i64 dom2))] = R18 K year0 month1 dom2 := by kernel_rfl
theorem pc18 {K : PureK} (hK : KOk X K) {year0 : Int} {month1 : Int} {dom2 : Int} {v : AV} (h : R18 K year0 month1 dom2 = some v) : PureCall X 18 [(.v (.int .i64 year0)), (.v (.int .i64 month1)), (.v (.int .i64 dom2))] v := by
  have hSo0 := soundX
  exact tell_top (X := X) (Y := X) rfl rfl hSo0 hK ((top18 K year0 month1 dom2).trans h)

/-! 19: escheat/escheatref07.Number -/
def R19 (K : PureK) (y0 : Int) (m1 : Int) (d2 : Int) : Option AV :=
  optK (br (decide (y0 < 1970))
        (some (bv true))
        (optK (K 43 [iv y0, iv m1, iv d2]) fun wv2 =>
        Ab.asBool wv2 fun wb3 =>
        some (bv !wb3))) fun wv1 =>
    Ab.asBool wv1 fun wb4 =>
    br wb4
      (some (iv (-1)))
      (optK (K 44 [iv y0, iv m1, iv d2]) fun wv5 =>
      Ab.asInt wv5 .i64 fun wn6 =>
      some (iv wn6))
theorem top19 (K : PureK) (y0 : Int) (m1 : Int) (d2 : Int) : topK X K 0 19 [(.v (.int .i64 y0)), (.v (.int .i64 m1)), (.v (.int .i64 d2))] = R19 K y0 m1 d2 := by kernel_rfl
theorem pc19 {K : PureK} (hK : KOk X K) {y0 : Int} {m1 : Int} {d2 : Int} {v : AV} (h : R19 K y0 m1 d2 = some v) : PureCall X 19 [(.v (.int .i64 y0)), (.v (.int .i64 m1)), (.v (.int .i64 d2))] v := by
  have hSo0 := soundX
  exact tell_top (X := X) (Y := X) rfl rfl hSo0 hK ((top19 K y0 m1 d2).trans h)

/-! 4: escheat/escheatlaw07.DateDays -/
def R4 (K : PureK) (day0 : Int) (ymd1_0 : Int) (ymd1_1 : Int) (ymd1_2 : Int) : Option AV :=
  optK (K 5 []) fun wv1 =>
    Ab.asBool wv1 fun wb2 =>
    br (!wb2)
      (some (bv false))
      (optK (K 16 [iv day0]) fun wv3 =>
      Ab.asTup wv3 3 fun wg4 =>
      Ab.asInt (wg4 0) .i64 fun wn5 =>
      Ab.asInt (wg4 1) .i64 fun wn6 =>
      Ab.asInt (wg4 2) .i64 fun wn7 =>
      optK (K 17 [iv day0]) fun wv8 =>
      Ab.asTup wv8 3 fun wg9 =>
      Ab.asInt (wg9 0) .i64 fun wn10 =>
      Ab.asInt (wg9 1) .i64 fun wn11 =>
      Ab.asInt (wg9 2) .i64 fun wn12 =>
      optK (br (wn5 == wn10)
          (br (wn6 == wn11)
            (br (wn7 == wn12)
              (optK (K 18 [iv ymd1_0, iv ymd1_1, iv ymd1_2]) fun wv14 =>
              Ab.asInt wv14 .i64 fun wn15 =>
              optK (K 19 [iv ymd1_0, iv ymd1_1, iv ymd1_2]) fun wv16 =>
              Ab.asInt wv16 .i64 fun wn17 =>
              some (bv (wn15 == wn17)))
              (some (bv false)))
            (some (bv false)))
          (some (bv false))) fun wv13 =>
      Ab.asBool wv13 fun wb18 =>
      some (bv wb18))
theorem top4 (K : PureK) (day0 : Int) (ymd1_0 : Int) (ymd1_1 : Int) (ymd1_2 : Int) : topK X K 0 4 [(.v (.int .i64 day0)), (.agg [(.v (.int .i64 ymd1_0)), (.v (.int .i64 ymd1_1)), (.v (.int .i64 ymd1_2))])] = R4 K day0 ymd1_0 ymd1_1 ymd1_2 := by kernel_rfl
theorem pc4 {K : PureK} (hK : KOk X K) {day0 : Int} {ymd1_0 : Int} {ymd1_1 : Int} {ymd1_2 : Int} {v : AV} (h : R4 K day0 ymd1_0 ymd1_1 ymd1_2 = some v) : PureCall X 4 [(.v (.int .i64 day0)), (.agg [(.v (.int .i64 ymd1_0)), (.v (.int .i64 ymd1_1)), (.v (.int .i64 ymd1_2))])] v := by
  have hSo0 := soundX
  exact tell_top (X := X) (Y := X) rfl rfl hSo0 hK ((top4 K day0 ymd1_0 ymd1_1 ymd1_2).trans h)

end Go.Proofs.YtmiffikcnkgcpaaGreatDoor
