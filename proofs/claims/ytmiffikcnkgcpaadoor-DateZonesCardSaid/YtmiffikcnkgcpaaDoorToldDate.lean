import Derived.Test.YtmiffikcnkgcpaaDoorCtx
set_option maxRecDepth 100000
set_option linter.unusedVariables false
set_option linter.unusedSimpArgs false
namespace Go.Proofs.YtmiffikcnkgcpaaDoor
open Go Go.Ab
/-! 31: escheat/date.leap -/
noncomputable def Rdate_leap (K : PureK) (y0 : Int) : Option AV :=
  optK (br (y0.tmod 4 == 0)
        (br (y0.tmod 100 != 0)
          (some (bv true))
          (some (bv (y0.tmod 400 == 0))))
        (some (bv (y0.tmod 400 == 0)))) fun wv1 =>
    Ab.asBool wv1 fun wb2 =>
    some (bv wb2)
theorem topdate_leap (K : PureK) (y0 : Int) : topK X K 0 f_date_leap [(.v (.int .i64 y0))] = Rdate_leap K y0 := by kernel_rfl
theorem pcdate_leap {K : PureK} (hK : KOk X K) {y0 : Int} {v : AV} (h : Rdate_leap K y0 = some v) : PureCall X f_date_leap [(.v (.int .i64 y0))] v := by
  have hSo0 := soundX
  exact tell_top (X := X) (Y := X) rfl rfl hSo0 hK ((topdate_leap K y0).trans h)

/-! 30: escheat/date.leaps -/
noncomputable def Rdate_leaps (K : PureK) (y0 : Int) : Option AV :=
  br (y0 == 0)
      (some (iv 0))
      (some (iv (w64 (w64 (w64 (w64 ((w64 (y0 - 1)).tdiv 4) - w64 ((w64 (y0 - 1)).tdiv 100)) + w64 ((w64 (y0 - 1)).tdiv 400)) + 1))))
theorem topdate_leaps (K : PureK) (y0 : Int) : topK X K 0 f_date_leaps [(.v (.int .i64 y0))] = Rdate_leaps K y0 := by kernel_rfl
theorem pcdate_leaps {K : PureK} (hK : KOk X K) {y0 : Int} {v : AV} (h : Rdate_leaps K y0 = some v) : PureCall X f_date_leaps [(.v (.int .i64 y0))] v := by
  have hSo0 := soundX
  exact tell_top (X := X) (Y := X) rfl rfl hSo0 hK ((topdate_leaps K y0).trans h)

/-! 19: escheat/date.count -/
noncomputable def Rdate_count (K : PureK) (y0 : Int) (m1 : Int) (d2 : Int) : Option AV :=
  optK (K f_date_leaps [iv y0]) fun wv1 =>
    Ab.asInt wv1 .i64 fun wn2 =>
    optK (K f_date_leaps [iv 1970]) fun wv3 =>
    Ab.asInt wv3 .i64 fun wn4 =>
    br (decide (0 ≤ w64 (m1 - 1)))
      (br (decide (w64 (m1 - 1) < 13))
        (optK (gl_date_ahead[0 + (w64 (m1 - 1)).toNat * 1]?) fun wv5 =>
        Ab.asInt wv5 .i64 fun wn6 =>
        optK (br (decide (m1 > 2))
            (optK (K f_date_leap [iv y0]) fun wv8 =>
            Ab.asBool wv8 fun wb9 =>
            some (bv wb9))
            (some (bv false))) fun wv7 =>
        Ab.asBool wv7 fun wb10 =>
        br wb10
          (some (iv (w64 (w64 (w64 (w64 (w64 (w64 (w64 (w64 (y0 - 1970) * 365) + wn2) - wn4) + wn6) + d2) - 1) + 1))))
          (some (iv (w64 (w64 (w64 (w64 (w64 (w64 (w64 (y0 - 1970) * 365) + wn2) - wn4) + wn6) + d2) - 1)))))
        (none))
      (none)
theorem topdate_count (K : PureK) (y0 : Int) (m1 : Int) (d2 : Int) : topK X K 0 f_date_count [(.v (.int .i64 y0)), (.v (.int .i64 m1)), (.v (.int .i64 d2))] = Rdate_count K y0 m1 d2 := by kernel_rfl
theorem pcdate_count {K : PureK} (hK : KOk X K) {y0 : Int} {m1 : Int} {d2 : Int} {v : AV} (h : Rdate_count K y0 m1 d2 = some v) : PureCall X f_date_count [(.v (.int .i64 y0)), (.v (.int .i64 m1)), (.v (.int .i64 d2))] v := by
  have hSo0 := soundX
  exact tell_top (X := X) (Y := X) rfl rfl hSo0 hK ((topdate_count K y0 m1 d2).trans h)

/-! 32: escheat/date.days -/
noncomputable def Rdate_days (K : PureK) (y0 : Int) (m1 : Int) : Option AV :=
  br (decide (0 ≤ m1))
      (br (decide (m1 < 13))
        (optK (gl_date_ahead[0 + m1.toNat * 1]?) fun wv1 =>
        Ab.asInt wv1 .i64 fun wn2 =>
        br (decide (0 ≤ w64 (m1 - 1)))
          (br (decide (w64 (m1 - 1) < 13))
            (optK (gl_date_ahead[0 + (w64 (m1 - 1)).toNat * 1]?) fun wv3 =>
            Ab.asInt wv3 .i64 fun wn4 =>
            optK (br (m1 == 2)
                (optK (K f_date_leap [iv y0]) fun wv6 =>
                Ab.asBool wv6 fun wb7 =>
                some (bv wb7))
                (some (bv false))) fun wv5 =>
            Ab.asBool wv5 fun wb8 =>
            br wb8
              (some (iv (w64 (w64 (wn2 - wn4) + 1))))
              (some (iv (w64 (wn2 - wn4)))))
            (none))
          (none))
        (none))
      (none)
theorem topdate_days (K : PureK) (y0 : Int) (m1 : Int) : topK X K 0 f_date_days [(.v (.int .i64 y0)), (.v (.int .i64 m1))] = Rdate_days K y0 m1 := by kernel_rfl
theorem pcdate_days {K : PureK} (hK : KOk X K) {y0 : Int} {m1 : Int} {v : AV} (h : Rdate_days K y0 m1 = some v) : PureCall X f_date_days [(.v (.int .i64 y0)), (.v (.int .i64 m1))] v := by
  have hSo0 := soundX
  exact tell_top (X := X) (Y := X) rfl rfl hSo0 hK ((topdate_days K y0 m1).trans h)

/-! 20: escheat/date.there -/
noncomputable def Rdate_there (K : PureK) (y0 : Int) (m1 : Int) (d2 : Int) : Option AV :=
  optK (br (decide (y0 ≥ 0))
        (br (decide (y0 ≤ 9999))
          (br (decide (m1 ≥ 1))
            (br (decide (m1 ≤ 12))
              (br (decide (d2 ≥ 1))
                (optK (K f_date_days [iv y0, iv m1]) fun wv2 =>
                Ab.asInt wv2 .i64 fun wn3 =>
                some (bv (decide (d2 ≤ wn3))))
                (some (bv false)))
              (some (bv false)))
            (some (bv false)))
          (some (bv false)))
        (some (bv false))) fun wv1 =>
    Ab.asBool wv1 fun wb4 =>
    some (bv wb4)
theorem topdate_there (K : PureK) (y0 : Int) (m1 : Int) (d2 : Int) : topK X K 0 f_date_there [(.v (.int .i64 y0)), (.v (.int .i64 m1)), (.v (.int .i64 d2))] = Rdate_there K y0 m1 d2 := by kernel_rfl
theorem pcdate_there {K : PureK} (hK : KOk X K) {y0 : Int} {m1 : Int} {d2 : Int} {v : AV} (h : Rdate_there K y0 m1 d2 = some v) : PureCall X f_date_there [(.v (.int .i64 y0)), (.v (.int .i64 m1)), (.v (.int .i64 d2))] v := by
  have hSo0 := soundX
  exact tell_top (X := X) (Y := X) rfl rfl hSo0 hK ((topdate_there K y0 m1 d2).trans h)

/-! 8: escheat/date.Civil -/
inductive Sdate_Civil_0 where
  | s0 (day0 : Int) (year2 : Int)

inductive Odate_Civil_0 where
  | x0 (day0 : Int) (year2 : Int)

def Odate_Civil_0.k {β : Type} (o : Odate_Civil_0) (c0 : Int → Int → Option β) : Option β := match o with
  | .x0 day0 year2 => c0 day0 year2

def Edate_Civil_0 : Sdate_Civil_0 → Env
  | .s0 day0 year2 => [(.v (.int .i64 day0)), .dead, (.v (.int .i64 year2)), .dead, .dead, .dead, .dead, .dead, .dead, .dead, .dead, .dead, .dead, .dead, .dead, .dead, .dead, .dead, .dead, .dead, .dead, .dead, .dead, .dead, .dead, .dead, .dead, .dead, .dead, .dead, .dead, .dead, .dead, .dead, .dead, .dead, .dead, .dead, .dead, .dead, .dead, .dead, .dead, .dead, .dead]

def Hdate_Civil_0 : Sdate_Civil_0 → Heap
  | .s0 day0 year2 => []

def Tdate_Civil_0 {β : Type} (k : Ex → Env → Heap → Option β) (o : Odate_Civil_0) : Option β := Odate_Civil_0.k o (fun day0 year2 => k (.exit 0) [(.v (.int .i64 day0)), .dead, (.v (.int .i64 year2)), .dead, .dead, .dead, .dead, .dead, .dead, .dead, .dead, .dead, .dead, .dead, .dead, .dead, .dead, .dead, .dead, .dead, .dead, .dead, .dead, .dead, .dead, .dead, .dead, .dead, .dead, .dead, .dead, .dead, .dead, .dead, .dead, .dead, .dead, .dead, .dead, .dead, .dead, .dead, .dead, .dead, .dead] [])

def Fdate_Civil_0 (ldate_Civil_0 : Sdate_Civil_0 → Option Odate_Civil_0) : LoopF := ⟨fun e h k => match Nat.beq e.length 45 with
  | true => (match e.getD 0 .dead, e.getD 2 .dead, h with
    | (.v (.int .i64 day0)), (.v (.int .i64 year2)), [] => optK (ldate_Civil_0 (.s0 day0 year2)) (Tdate_Civil_0 k)
    | _, _, _ => none)
  | false => none⟩

def cldate_Civil_0 : List Tmp := [1, 3, 4, 5, 6, 7, 8, 9, 10, 11, 12, 13, 14, 15, 16, 17, 18, 19, 20, 21, 22, 23, 24, 25, 26, 27, 28, 29, 30, 31, 32, 33, 34, 35, 36, 37, 38, 39, 40, 41, 42, 43, 44]
def clodate_Civil_0 : List Tmp := [1, 3, 4, 5, 6, 7, 8, 9, 10, 11, 12, 13, 14, 15, 16, 17, 18, 19, 20, 21, 22, 23, 24, 25, 26, 27, 28, 29, 30, 31, 32, 33, 34, 35, 36, 37, 38, 39, 40, 41, 42, 43, 44]

noncomputable def Rdate_Civil_0 {β : Type} (K : PureK) (d : Odate_Civil_0 → Option β) (r : Sdate_Civil_0 → Option β) : Sdate_Civil_0 → Option β
  | .s0 day0 year2 =>
    optK (br (decide (year2 < 9999))
        (optK (K f_date_count [iv (w64 (year2 + 1)), iv 1, iv 1]) fun wv2 =>
        Ab.asInt wv2 .i64 fun wn3 =>
        some (bv (decide (wn3 ≤ day0))))
        (some (bv false))) fun wv1 =>
    Ab.asBool wv1 fun wb4 =>
    br wb4
      (r (.s0 day0 (w64 (year2 + 1))))
      (d (.x0 day0 year2))
theorem rounddate_Civil_0 (K : PureK) {β : Type} (r : Env → Heap → Option β) (k : Ex → Env → Heap → Option β) (s : Sdate_Civil_0) : tellOne X K 0 8 0 [(0, 1, 0), (1, 1, 0), (2, 1, 0)] 0 cldate_Civil_0 clodate_Civil_0 r k (Edate_Civil_0 s) (Hdate_Civil_0 s) = Rdate_Civil_0 K (Tdate_Civil_0 k) (fun s => r (Edate_Civil_0 s) (Hdate_Civil_0 s)) s := by
  cases s <;> kernel_rfl
theorem Odate_Civil_0.bind_k {β γ : Type} (o : Odate_Civil_0) (c0 : Int → Int → Option β) (φ : β → Option γ) : (Odate_Civil_0.k o c0).bind φ = Odate_Civil_0.k o (fun day0 year2 => (c0 day0 year2).bind φ) := by cases o <;> rfl
theorem natdate_Civil_0 (K : PureK) {β γ : Type} (φ : β → Option γ) (d : Odate_Civil_0 → Option β) (r : Sdate_Civil_0 → Option β) (s : Sdate_Civil_0) : Rdate_Civil_0 K (fun o => (d o).bind φ) (fun s => (r s).bind φ) s = (Rdate_Civil_0 K d r s).bind φ := by
  cases s <;> simp only [Rdate_Civil_0, bind_optK, bind_br, bind_asInt, bind_asBool, bind_asStr, bind_asLst, bind_asAgg, bind_asTup, bind_asBig, bind_asErr, bind_none]
theorem outdate_Civil_0 (o : Odate_Civil_0) : ∃ x e' h', ∀ {β : Type} (k : Ex → Env → Heap → Option β), Tdate_Civil_0 k o = k x e' h' := by cases o <;> exact ⟨_, _, _, fun _ => rfl⟩
theorem okdate_Civil_0 {K : PureK} (hX : Sound X) (hK : KOk X K) {ldate_Civil_0 : Sdate_Civil_0 → Option Odate_Civil_0} (hl : ∀ s o, ldate_Civil_0 s = some o → ∃ m, fuelRec (Rdate_Civil_0 K some) m s = some o) (β : Type) (e : Env) (h : Heap) (k : Ex → Env → Heap → Option β) (r : β) (hr : (Fdate_Civil_0 ldate_Civil_0).run e h k = some r) : ∃ x e' h', k x e' h' = some r ∧ CodeAt X (.loop (loopBody (X).P 8 0)) e h x e' h' := by
  obtain ⟨fn, c, hin⟩ := loopIn_of (X := X) (f := 8) (i := 0) (key := 4) (by kernel_rfl)
  simp only [Fdate_Civil_0] at hr
  split at hr
  · rename_i hlen
    have hlen := Nat.eq_of_beq_eq_true hlen
    split at hr
    · rename_i q0 q2
      obtain ⟨o, ho, hr⟩ := optK_some hr
      refine tell_ok hX (KOk.congr (X := X) (Y := X) rfl rfl hK) hin (E := Edate_Civil_0) (H := Hdate_Civil_0) (R := fun d r => Rdate_Civil_0 K d r) (T := Tdate_Civil_0) (ts := [(0, 1, 0), (1, 1, 0), (2, 1, 0)]) (len := 0) (cl := cldate_Civil_0) (clo := clodate_Civil_0) (rounddate_Civil_0 K) (natdate_Civil_0 K) outdate_Civil_0 (hl _ _ ho) (cl0 := cldate_Civil_0) (ts0 := []) ?_ rfl (by kernel_rfl) (by kernel_rfl) hr
      rw [clear_lit e 45 hlen, show clearEnv cldate_Civil_0 ((List.range 45).map fun i => e.getD i .dead) = [e.getD 0 .dead, .dead, e.getD 2 .dead, .dead, .dead, .dead, .dead, .dead, .dead, .dead, .dead, .dead, .dead, .dead, .dead, .dead, .dead, .dead, .dead, .dead, .dead, .dead, .dead, .dead, .dead, .dead, .dead, .dead, .dead, .dead, .dead, .dead, .dead, .dead, .dead, .dead, .dead, .dead, .dead, .dead, .dead, .dead, .dead, .dead, .dead] from by kernel_rfl]; rw [q0, q2]
      kernel_rfl
    · cases hr
  · cases hr
inductive Sdate_Civil_1 where
  | s0 (day0 : Int) (year2 : Int) (month3 : Int)

inductive Odate_Civil_1 where
  | x0 (day0 : Int) (year2 : Int) (month3 : Int)

def Odate_Civil_1.k {β : Type} (o : Odate_Civil_1) (c0 : Int → Int → Int → Option β) : Option β := match o with
  | .x0 day0 year2 month3 => c0 day0 year2 month3

def Edate_Civil_1 : Sdate_Civil_1 → Env
  | .s0 day0 year2 month3 => [(.v (.int .i64 day0)), .dead, (.v (.int .i64 year2)), (.v (.int .i64 month3)), .dead, .dead, .dead, .dead, .dead, .dead, .dead, .dead, .dead, .dead, .dead, .dead, .dead, .dead, .dead, .dead, .dead, .dead, .dead, .dead, .dead, .dead, .dead, .dead, .dead, .dead, .dead, .dead, .dead, .dead, .dead, .dead, .dead, .dead, .dead, .dead, .dead, .dead, .dead, .dead, .dead]

def Hdate_Civil_1 : Sdate_Civil_1 → Heap
  | .s0 day0 year2 month3 => []

def Tdate_Civil_1 {β : Type} (k : Ex → Env → Heap → Option β) (o : Odate_Civil_1) : Option β := Odate_Civil_1.k o (fun day0 year2 month3 => k (.exit 2) [(.v (.int .i64 day0)), .dead, (.v (.int .i64 year2)), (.v (.int .i64 month3)), .dead, .dead, .dead, .dead, .dead, .dead, .dead, .dead, .dead, .dead, .dead, .dead, .dead, .dead, .dead, .dead, .dead, .dead, .dead, .dead, .dead, .dead, .dead, .dead, .dead, .dead, .dead, .dead, .dead, .dead, .dead, .dead, .dead, .dead, .dead, .dead, .dead, .dead, .dead, .dead, .dead] [])

def Fdate_Civil_1 (ldate_Civil_1 : Sdate_Civil_1 → Option Odate_Civil_1) : LoopF := ⟨fun e h k => match Nat.beq e.length 45 with
  | true => (match e.getD 0 .dead, e.getD 2 .dead, e.getD 3 .dead, h with
    | (.v (.int .i64 day0)), (.v (.int .i64 year2)), (.v (.int .i64 month3)), [] => optK (ldate_Civil_1 (.s0 day0 year2 month3)) (Tdate_Civil_1 k)
    | _, _, _, _ => none)
  | false => none⟩

def cldate_Civil_1 : List Tmp := [1, 4, 5, 6, 7, 8, 9, 10, 11, 12, 13, 14, 15, 16, 17, 18, 19, 20, 21, 22, 23, 24, 25, 26, 27, 28, 29, 30, 31, 32, 33, 34, 35, 36, 37, 38, 39, 40, 41, 42, 43, 44]
def clodate_Civil_1 : List Tmp := [1, 4, 5, 6, 7, 8, 9, 10, 11, 12, 13, 14, 15, 16, 17, 18, 19, 20, 21, 22, 23, 24, 25, 26, 27, 28, 29, 30, 31, 32, 33, 34, 35, 36, 37, 38, 39, 40, 41, 42, 43, 44]

noncomputable def Rdate_Civil_1 {β : Type} (K : PureK) (d : Odate_Civil_1 → Option β) (r : Sdate_Civil_1 → Option β) : Sdate_Civil_1 → Option β
  | .s0 day0 year2 month3 =>
    optK (br (decide (month3 < 12))
        (optK (K f_date_count [iv year2, iv (w64 (month3 + 1)), iv 1]) fun wv2 =>
        Ab.asInt wv2 .i64 fun wn3 =>
        some (bv (decide (wn3 ≤ day0))))
        (some (bv false))) fun wv1 =>
    Ab.asBool wv1 fun wb4 =>
    br wb4
      (r (.s0 day0 year2 (w64 (month3 + 1))))
      (d (.x0 day0 year2 month3))
theorem rounddate_Civil_1 (K : PureK) (ldate_Civil_0 : Sdate_Civil_0 → Option Odate_Civil_0) {β : Type} (r : Env → Heap → Option β) (k : Ex → Env → Heap → Option β) (s : Sdate_Civil_1) : tellOne (addLp X 8 4 (Fdate_Civil_0 ldate_Civil_0)) K 0 8 1 [(0, 1, 0), (1, 1, 0), (2, 1, 0)] 0 cldate_Civil_1 clodate_Civil_1 r k (Edate_Civil_1 s) (Hdate_Civil_1 s) = Rdate_Civil_1 K (Tdate_Civil_1 k) (fun s => r (Edate_Civil_1 s) (Hdate_Civil_1 s)) s := by
  cases s <;> kernel_rfl
theorem Odate_Civil_1.bind_k {β γ : Type} (o : Odate_Civil_1) (c0 : Int → Int → Int → Option β) (φ : β → Option γ) : (Odate_Civil_1.k o c0).bind φ = Odate_Civil_1.k o (fun day0 year2 month3 => (c0 day0 year2 month3).bind φ) := by cases o <;> rfl
theorem natdate_Civil_1 (K : PureK) {β γ : Type} (φ : β → Option γ) (d : Odate_Civil_1 → Option β) (r : Sdate_Civil_1 → Option β) (s : Sdate_Civil_1) : Rdate_Civil_1 K (fun o => (d o).bind φ) (fun s => (r s).bind φ) s = (Rdate_Civil_1 K d r s).bind φ := by
  cases s <;> simp only [Rdate_Civil_1, bind_optK, bind_br, bind_asInt, bind_asBool, bind_asStr, bind_asLst, bind_asAgg, bind_asTup, bind_asBig, bind_asErr, bind_none]
theorem outdate_Civil_1 (o : Odate_Civil_1) : ∃ x e' h', ∀ {β : Type} (k : Ex → Env → Heap → Option β), Tdate_Civil_1 k o = k x e' h' := by cases o <;> exact ⟨_, _, _, fun _ => rfl⟩
theorem okdate_Civil_1 {K : PureK} (ldate_Civil_0 : Sdate_Civil_0 → Option Odate_Civil_0) (hX : Sound (addLp X 8 4 (Fdate_Civil_0 ldate_Civil_0))) (hK : KOk X K) {ldate_Civil_1 : Sdate_Civil_1 → Option Odate_Civil_1} (hl : ∀ s o, ldate_Civil_1 s = some o → ∃ m, fuelRec (Rdate_Civil_1 K some) m s = some o) (β : Type) (e : Env) (h : Heap) (k : Ex → Env → Heap → Option β) (r : β) (hr : (Fdate_Civil_1 ldate_Civil_1).run e h k = some r) : ∃ x e' h', k x e' h' = some r ∧ CodeAt (addLp X 8 4 (Fdate_Civil_0 ldate_Civil_0)) (.loop (loopBody ((addLp X 8 4 (Fdate_Civil_0 ldate_Civil_0))).P 8 1)) e h x e' h' := by
  obtain ⟨fn, c, hin⟩ := loopIn_of (X := (addLp X 8 4 (Fdate_Civil_0 ldate_Civil_0))) (f := 8) (i := 1) (key := 7) (by kernel_rfl)
  simp only [Fdate_Civil_1] at hr
  split at hr
  · rename_i hlen
    have hlen := Nat.eq_of_beq_eq_true hlen
    split at hr
    · rename_i q0 q2 q3
      obtain ⟨o, ho, hr⟩ := optK_some hr
      refine tell_ok hX (KOk.congr (X := X) (Y := (addLp X 8 4 (Fdate_Civil_0 ldate_Civil_0))) rfl rfl hK) hin (E := Edate_Civil_1) (H := Hdate_Civil_1) (R := fun d r => Rdate_Civil_1 K d r) (T := Tdate_Civil_1) (ts := [(0, 1, 0), (1, 1, 0), (2, 1, 0)]) (len := 0) (cl := cldate_Civil_1) (clo := clodate_Civil_1) (rounddate_Civil_1 K ldate_Civil_0) (natdate_Civil_1 K) outdate_Civil_1 (hl _ _ ho) (cl0 := cldate_Civil_1) (ts0 := []) ?_ rfl (by kernel_rfl) (by kernel_rfl) hr
      rw [clear_lit e 45 hlen, show clearEnv cldate_Civil_1 ((List.range 45).map fun i => e.getD i .dead) = [e.getD 0 .dead, .dead, e.getD 2 .dead, e.getD 3 .dead, .dead, .dead, .dead, .dead, .dead, .dead, .dead, .dead, .dead, .dead, .dead, .dead, .dead, .dead, .dead, .dead, .dead, .dead, .dead, .dead, .dead, .dead, .dead, .dead, .dead, .dead, .dead, .dead, .dead, .dead, .dead, .dead, .dead, .dead, .dead, .dead, .dead, .dead, .dead, .dead, .dead] from by kernel_rfl]; rw [q0, q2, q3]
      kernel_rfl
    · cases hr
  · cases hr
noncomputable def Rdate_Civil (K : PureK) (ldate_Civil_0 : Sdate_Civil_0 → Option Odate_Civil_0) (ldate_Civil_1 : Sdate_Civil_1 → Option Odate_Civil_1) (day0 : Int) : Option AV :=
  optK (br (decide (day0 < 0))
        (some (bv true))
        (some (bv (decide (day0 > 2932896))))) fun wv7 =>
    Ab.asBool wv7 fun wb8 =>
    br wb8
      (some (AV.tup [iv 0, iv 0, iv 0]))
      (optK (ldate_Civil_0 (Sdate_Civil_0.s0 day0 (w64 (1970 + w64 (day0.tdiv 366))))) fun wo9 => Odate_Civil_0.k wo9 (fun (day0_10 : Int) (year2_10 : Int) =>
      optK (ldate_Civil_1 (Sdate_Civil_1.s0 day0_10 year2_10 1)) fun wo11 => Odate_Civil_1.k wo11 (fun (day0_12 : Int) (year2_12 : Int) (month3_12 : Int) =>
      optK (K f_date_count [iv year2_12, iv month3_12, iv 1]) fun wv13 =>
      Ab.asInt wv13 .i64 fun wn14 =>
      some (AV.tup [iv year2_12, iv month3_12, iv (w64 (w64 (day0_12 - wn14) + 1))]))))
theorem topdate_Civil (K : PureK) (ldate_Civil_0 : Sdate_Civil_0 → Option Odate_Civil_0) (ldate_Civil_1 : Sdate_Civil_1 → Option Odate_Civil_1) (day0 : Int) : topK (addLp (addLp X 8 4 (Fdate_Civil_0 ldate_Civil_0)) 8 7 (Fdate_Civil_1 ldate_Civil_1)) K 0 f_date_Civil [(.v (.int .i64 day0))] = Rdate_Civil K ldate_Civil_0 ldate_Civil_1 day0 := by kernel_rfl
theorem pcdate_Civil {K : PureK} (hK : KOk X K) {ldate_Civil_0 : Sdate_Civil_0 → Option Odate_Civil_0} {ldate_Civil_1 : Sdate_Civil_1 → Option Odate_Civil_1} (hdate_Civil_0 : ∀ s o, ldate_Civil_0 s = some o → ∃ m, fuelRec (Rdate_Civil_0 K some) m s = some o) (hdate_Civil_1 : ∀ s o, ldate_Civil_1 s = some o → ∃ m, fuelRec (Rdate_Civil_1 K some) m s = some o) {day0 : Int} {v : AV} (h : Rdate_Civil K ldate_Civil_0 ldate_Civil_1 day0 = some v) : PureCall X f_date_Civil [(.v (.int .i64 day0))] v := by
  have hSo0 := soundX
  obtain ⟨_, _, hin0⟩ := loopIn_of (X := X) (f := 8) (i := 0) (key := 4) (by kernel_rfl)
  have hSo1 := sound_add hSo0 hin0 (okdate_Civil_0 hSo0 hK hdate_Civil_0)
  obtain ⟨_, _, hin1⟩ := loopIn_of (X := (addLp X 8 4 (Fdate_Civil_0 ldate_Civil_0))) (f := 8) (i := 1) (key := 7) (by kernel_rfl)
  have hSo2 := sound_add hSo1 hin1 (okdate_Civil_1 ldate_Civil_0 hSo1 hK hdate_Civil_1)
  exact tell_top (X := X) (Y := (addLp (addLp X 8 4 (Fdate_Civil_0 ldate_Civil_0)) 8 7 (Fdate_Civil_1 ldate_Civil_1))) rfl rfl hSo2 hK ((topdate_Civil K ldate_Civil_0 ldate_Civil_1 day0).trans h)

/-! 10: escheat/date.Number -/
noncomputable def Rdate_Number (K : PureK) (year0 : Int) (month1 : Int) (dom2 : Int) : Option AV :=
  optK (br (decide (year0 < 1970))
        (some (bv true))
        (optK (K f_date_there [iv year0, iv month1, iv dom2]) fun wv2 =>
        Ab.asBool wv2 fun wb3 =>
        some (bv !wb3))) fun wv1 =>
    Ab.asBool wv1 fun wb4 =>
    br wb4
      (some (iv (-1)))
      (optK (K f_date_count [iv year0, iv month1, iv dom2]) fun wv5 =>
      Ab.asInt wv5 .i64 fun wn6 =>
      some (iv wn6))
theorem topdate_Number (K : PureK) (year0 : Int) (month1 : Int) (dom2 : Int) : topK X K 0 f_date_Number [(.v (.int .i64 year0)), (.v (.int .i64 month1)), (.v (.int .i64 dom2))] = Rdate_Number K year0 month1 dom2 := by kernel_rfl
theorem pcdate_Number {K : PureK} (hK : KOk X K) {year0 : Int} {month1 : Int} {dom2 : Int} {v : AV} (h : Rdate_Number K year0 month1 dom2 = some v) : PureCall X f_date_Number [(.v (.int .i64 year0)), (.v (.int .i64 month1)), (.v (.int .i64 dom2))] v := by
  have hSo0 := soundX
  exact tell_top (X := X) (Y := X) rfl rfl hSo0 hK ((topdate_Number K year0 month1 dom2).trans h)

/-! 27: escheat/date.number -/
noncomputable def Rdate_number (K : PureK) (s0 : ByteArray) (least1 : Int) (most2 : Int) : Option AV :=
  optK (br (decide (((s0.size : Nat) : Int) < least1))
        (some (bv true))
        (br (decide (((s0.size : Nat) : Int) > most2))
          (some (bv true))
          (optK (K f_strings_Trim [sv s0, sv { data := #[48, 49, 50, 51, 52, 53, 54, 55, 56, 57] }]) fun wv2 =>
          Ab.asStr wv2 fun ws3 =>
          some (bv !strEq ws3 { data := #[] })))) fun wv1 =>
    Ab.asBool wv1 fun wb4 =>
    br wb4
      (some (AV.tup [iv 0, bv false]))
      (optK (K f_strconv_Atoi [sv s0]) fun wv5 =>
      Ab.asTup wv5 2 fun wg6 =>
      Ab.asInt (wg6 0) .i64 fun wn7 =>
      br (refFree (AV.tup [iv wn7, (wg6 1)]))
        (some (AV.tup [iv wn7, bv true]))
        (none))
theorem topdate_number (K : PureK) (s0 : ByteArray) (least1 : Int) (most2 : Int) : topK X K 0 f_date_number [(.v (.string s0)), (.v (.int .i64 least1)), (.v (.int .i64 most2))] = Rdate_number K s0 least1 most2 := by kernel_rfl
theorem pcdate_number {K : PureK} (hK : KOk X K) {s0 : ByteArray} {least1 : Int} {most2 : Int} {v : AV} (h : Rdate_number K s0 least1 most2 = some v) : PureCall X f_date_number [(.v (.string s0)), (.v (.int .i64 least1)), (.v (.int .i64 most2))] v := by
  have hSo0 := soundX
  exact tell_top (X := X) (Y := X) rfl rfl hSo0 hK ((topdate_number K s0 least1 most2).trans h)

/-! 15: escheat/date.calendar -/
inductive Sdate_calendar_0 where
  | s0 (month1 : ByteArray) (d8 : Int) (ok9 : Bool) (y10 : Int) (is11 : Bool) (t24_0 : ByteArray) (t24_1 : ByteArray) (t24_2 : ByteArray) (t24_3 : ByteArray) (t24_4 : ByteArray) (t24_5 : ByteArray) (t24_6 : ByteArray) (t24_7 : ByteArray) (t24_8 : ByteArray) (t24_9 : ByteArray) (t24_10 : ByteArray) (t24_11 : ByteArray) (t25 : Int)

inductive Odate_calendar_0 where
  | x0 (t6 : Int) (t7 : Bool)
  | x1

def Odate_calendar_0.k {β : Type} (o : Odate_calendar_0) (c0 : Int → Bool → Option β) (c1 : Option β) : Option β := match o with
  | .x0 t6 t7 => c0 t6 t7
  | .x1 => c1

def Edate_calendar_0 : Sdate_calendar_0 → Env
  | .s0 month1 d8 ok9 y10 is11 t24_0 t24_1 t24_2 t24_3 t24_4 t24_5 t24_6 t24_7 t24_8 t24_9 t24_10 t24_11 t25 => [.dead, (.v (.string month1)), .dead, .dead, .dead, .dead, .dead, .dead, (.v (.int .i64 d8)), (.v (.bool ok9)), (.v (.int .i64 y10)), (.v (.bool is11)), .dead, .dead, .dead, .dead, .dead, .dead, .dead, .dead, .dead, .dead, .dead, .dead, (.agg [(.v (.string t24_0)), (.v (.string t24_1)), (.v (.string t24_2)), (.v (.string t24_3)), (.v (.string t24_4)), (.v (.string t24_5)), (.v (.string t24_6)), (.v (.string t24_7)), (.v (.string t24_8)), (.v (.string t24_9)), (.v (.string t24_10)), (.v (.string t24_11))]), (.v (.int .i64 t25)), .dead, .dead, .dead, .dead, .dead, .dead, .dead, .dead, .dead, .dead, .dead, .dead, .dead, .dead, .dead, .dead, .dead, .dead, .dead, .dead, .dead, .dead, .dead, .dead, .dead, .dead, .dead, .dead, .dead, .dead, .dead, .dead]

def Hdate_calendar_0 : Sdate_calendar_0 → Heap
  | .s0 month1 d8 ok9 y10 is11 t24_0 t24_1 t24_2 t24_3 t24_4 t24_5 t24_6 t24_7 t24_8 t24_9 t24_10 t24_11 t25 => []

def Tdate_calendar_0 {β : Type} (k : Ex → Env → Heap → Option β) (o : Odate_calendar_0) : Option β := Odate_calendar_0.k o (fun t6 t7 => k .ret [.dead, .dead, .dead, .dead, .dead, .dead, (.v (.int .i64 t6)), (.v (.bool t7)), .dead, .dead, .dead, .dead, .dead, .dead, .dead, .dead, .dead, .dead, .dead, .dead, .dead, .dead, .dead, .dead, .dead, .dead, .dead, .dead, .dead, .dead, .dead, .dead, .dead, .dead, .dead, .dead, .dead, .dead, .dead, .dead, .dead, .dead, .dead, .dead, .dead, .dead, .dead, .dead, .dead, .dead, .dead, .dead, .dead, .dead, .dead, .dead, .dead, .dead] []) (k (.exit 0) [.dead, .dead, .dead, .dead, .dead, .dead, .dead, .dead, .dead, .dead, .dead, .dead, .dead, .dead, .dead, .dead, .dead, .dead, .dead, .dead, .dead, .dead, .dead, .dead, .dead, .dead, .dead, .dead, .dead, .dead, .dead, .dead, .dead, .dead, .dead, .dead, .dead, .dead, .dead, .dead, .dead, .dead, .dead, .dead, .dead, .dead, .dead, .dead, .dead, .dead, .dead, .dead, .dead, .dead, .dead, .dead, .dead, .dead] [])

def Fdate_calendar_0 (ldate_calendar_0 : Sdate_calendar_0 → Option Odate_calendar_0) : LoopF := ⟨fun e h k => match Nat.beq e.length 58 with
  | true => (match e.getD 1 .dead, e.getD 8 .dead, e.getD 9 .dead, e.getD 10 .dead, e.getD 11 .dead, e.getD 24 .dead, e.getD 25 .dead, h with
    | (.v (.string month1)), (.v (.int .i64 d8)), (.v (.bool ok9)), (.v (.int .i64 y10)), (.v (.bool is11)), (.agg [(.v (.string t24_0)), (.v (.string t24_1)), (.v (.string t24_2)), (.v (.string t24_3)), (.v (.string t24_4)), (.v (.string t24_5)), (.v (.string t24_6)), (.v (.string t24_7)), (.v (.string t24_8)), (.v (.string t24_9)), (.v (.string t24_10)), (.v (.string t24_11))]), (.v (.int .i64 t25)), [] => optK (ldate_calendar_0 (.s0 month1 d8 ok9 y10 is11 t24_0 t24_1 t24_2 t24_3 t24_4 t24_5 t24_6 t24_7 t24_8 t24_9 t24_10 t24_11 t25)) (Tdate_calendar_0 k)
    | _, _, _, _, _, _, _, _ => none)
  | false => none⟩

def cldate_calendar_0 : List Tmp := [0, 2, 3, 4, 5, 6, 7, 12, 13, 14, 15, 16, 17, 18, 19, 20, 21, 22, 23, 26, 27, 28, 29, 30, 31, 32, 33, 34, 35, 36, 37, 38, 39, 40, 41, 42, 43, 44, 45, 46, 47, 48, 49, 50, 51, 52, 53, 54, 55, 56, 57]
def clodate_calendar_0 : List Tmp := [0, 1, 2, 3, 4, 5, 8, 9, 10, 11, 12, 13, 14, 15, 16, 17, 18, 19, 20, 21, 22, 23, 24, 25, 26, 27, 28, 29, 30, 31, 32, 33, 34, 35, 36, 37, 38, 39, 40, 41, 42, 43, 44, 45, 46, 47, 48, 49, 50, 51, 52, 53, 54, 55, 56, 57]

noncomputable def Rdate_calendar_0 {β : Type} (K : PureK) (d : Odate_calendar_0 → Option β) (r : Sdate_calendar_0 → Option β) : Sdate_calendar_0 → Option β
  | .s0 month1 d8 ok9 y10 is11 t24_0 t24_1 t24_2 t24_3 t24_4 t24_5 t24_6 t24_7 t24_8 t24_9 t24_10 t24_11 t25 =>
    br (decide (t25 < 12))
      (br (decide (0 ≤ t25))
        (br (decide (t25 < 12))
          (optK ([sv t24_0, sv t24_1, sv t24_2, sv t24_3, sv t24_4, sv t24_5, sv t24_6, sv t24_7, sv t24_8, sv t24_9, sv t24_10, sv t24_11][t25.toNat * 1]?) fun wv1 =>
          Ab.asStr wv1 fun ws2 =>
          optK (br ok9
              (br is11
                (br (((month1.size : Nat) : Int) == ((ws2.size : Nat) : Int))
                  (optK (K f_strings_EqualFold [sv ws2, sv month1]) fun wv4 =>
                  Ab.asBool wv4 fun wb5 =>
                  br wb5
                    (optK (K f_date_there [iv y10, iv (w64 (t25 + 1)), iv d8]) fun wv6 =>
                    Ab.asBool wv6 fun wb7 =>
                    some (bv wb7))
                    (some (bv false)))
                  (some (bv false)))
                (some (bv false)))
              (some (bv false))) fun wv3 =>
          Ab.asBool wv3 fun wb8 =>
          br wb8
            (optK (K f_date_count [iv y10, iv (w64 (t25 + 1)), iv d8]) fun wv9 =>
            Ab.asInt wv9 .i64 fun wn10 =>
            d (.x0 wn10 true))
            (r (.s0 month1 d8 ok9 y10 is11 t24_0 t24_1 t24_2 t24_3 t24_4 t24_5 t24_6 t24_7 t24_8 t24_9 t24_10 t24_11 (w64 (t25 + 1)))))
          (none))
        (none))
      (d (.x1))
theorem rounddate_calendar_0 (K : PureK) {β : Type} (r : Env → Heap → Option β) (k : Ex → Env → Heap → Option β) (s : Sdate_calendar_0) : tellOne X K 0 15 0 [(0, 1, 0), (1, 1, 0), (2, 1, 0)] 0 cldate_calendar_0 clodate_calendar_0 r k (Edate_calendar_0 s) (Hdate_calendar_0 s) = Rdate_calendar_0 K (Tdate_calendar_0 k) (fun s => r (Edate_calendar_0 s) (Hdate_calendar_0 s)) s := by
  cases s <;> kernel_rfl
theorem Odate_calendar_0.bind_k {β γ : Type} (o : Odate_calendar_0) (c0 : Int → Bool → Option β) (c1 : Option β) (φ : β → Option γ) : (Odate_calendar_0.k o c0 c1).bind φ = Odate_calendar_0.k o (fun t6 t7 => (c0 t6 t7).bind φ) (c1.bind φ) := by cases o <;> rfl
theorem natdate_calendar_0 (K : PureK) {β γ : Type} (φ : β → Option γ) (d : Odate_calendar_0 → Option β) (r : Sdate_calendar_0 → Option β) (s : Sdate_calendar_0) : Rdate_calendar_0 K (fun o => (d o).bind φ) (fun s => (r s).bind φ) s = (Rdate_calendar_0 K d r s).bind φ := by
  cases s <;> simp only [Rdate_calendar_0, bind_optK, bind_br, bind_asInt, bind_asBool, bind_asStr, bind_asLst, bind_asAgg, bind_asTup, bind_asBig, bind_asErr, bind_none]
theorem outdate_calendar_0 (o : Odate_calendar_0) : ∃ x e' h', ∀ {β : Type} (k : Ex → Env → Heap → Option β), Tdate_calendar_0 k o = k x e' h' := by cases o <;> exact ⟨_, _, _, fun _ => rfl⟩
theorem okdate_calendar_0 {K : PureK} (hX : Sound X) (hK : KOk X K) {ldate_calendar_0 : Sdate_calendar_0 → Option Odate_calendar_0} (hl : ∀ s o, ldate_calendar_0 s = some o → ∃ m, fuelRec (Rdate_calendar_0 K some) m s = some o) (β : Type) (e : Env) (h : Heap) (k : Ex → Env → Heap → Option β) (r : β) (hr : (Fdate_calendar_0 ldate_calendar_0).run e h k = some r) : ∃ x e' h', k x e' h' = some r ∧ CodeAt X (.loop (loopBody (X).P 15 0)) e h x e' h' := by
  obtain ⟨fn, c, hin⟩ := loopIn_of (X := X) (f := 15) (i := 0) (key := 4) (by kernel_rfl)
  simp only [Fdate_calendar_0] at hr
  split at hr
  · rename_i hlen
    have hlen := Nat.eq_of_beq_eq_true hlen
    split at hr
    · rename_i q1 q8 q9 q10 q11 q24 q25
      obtain ⟨o, ho, hr⟩ := optK_some hr
      refine tell_ok hX (KOk.congr (X := X) (Y := X) rfl rfl hK) hin (E := Edate_calendar_0) (H := Hdate_calendar_0) (R := fun d r => Rdate_calendar_0 K d r) (T := Tdate_calendar_0) (ts := [(0, 1, 0), (1, 1, 0), (2, 1, 0)]) (len := 0) (cl := cldate_calendar_0) (clo := clodate_calendar_0) (rounddate_calendar_0 K) (natdate_calendar_0 K) outdate_calendar_0 (hl _ _ ho) (cl0 := cldate_calendar_0) (ts0 := []) ?_ rfl (by kernel_rfl) (by kernel_rfl) hr
      rw [clear_lit e 58 hlen, show clearEnv cldate_calendar_0 ((List.range 58).map fun i => e.getD i .dead) = [.dead, e.getD 1 .dead, .dead, .dead, .dead, .dead, .dead, .dead, e.getD 8 .dead, e.getD 9 .dead, e.getD 10 .dead, e.getD 11 .dead, .dead, .dead, .dead, .dead, .dead, .dead, .dead, .dead, .dead, .dead, .dead, .dead, e.getD 24 .dead, e.getD 25 .dead, .dead, .dead, .dead, .dead, .dead, .dead, .dead, .dead, .dead, .dead, .dead, .dead, .dead, .dead, .dead, .dead, .dead, .dead, .dead, .dead, .dead, .dead, .dead, .dead, .dead, .dead, .dead, .dead, .dead, .dead, .dead, .dead] from by kernel_rfl]; rw [q1, q8, q9, q10, q11, q24, q25]
      kernel_rfl
    · cases hr
  · cases hr
noncomputable def Rdate_calendar (K : PureK) (ldate_calendar_0 : Sdate_calendar_0 → Option Odate_calendar_0) (dom0 : ByteArray) (month1 : ByteArray) (year2 : ByteArray) : Option AV :=
  optK (K f_date_number [sv dom0, iv 1, iv 2]) fun wv9 =>
    Ab.asTup wv9 2 fun wg10 =>
    Ab.asInt (wg10 0) .i64 fun wn11 =>
    Ab.asBool (wg10 1) fun wb12 =>
    optK (K f_date_number [sv year2, iv 4, iv 4]) fun wv13 =>
    Ab.asTup wv13 2 fun wg14 =>
    Ab.asInt (wg14 0) .i64 fun wn15 =>
    Ab.asBool (wg14 1) fun wb16 =>
    optK (ldate_calendar_0 (Sdate_calendar_0.s0 month1 wn11 wb12 wn15 wb16 { data := #[74, 97, 110] } { data := #[70, 101, 98] } { data := #[77, 97, 114] } { data := #[65, 112, 114] } { data := #[77, 97, 121] } { data := #[74, 117, 110] } { data := #[74, 117, 108] } { data := #[65, 117, 103] } { data := #[83, 101, 112] } { data := #[79, 99, 116] } { data := #[78, 111, 118] } { data := #[68, 101, 99] } 0)) fun wo17 => Odate_calendar_0.k wo17
      (fun (t6_18 : Int) (t7_18 : Bool) => some (AV.tup [iv t6_18, bv t7_18]))
      (some (AV.tup [iv 0, bv false]))
theorem topdate_calendar (K : PureK) (ldate_calendar_0 : Sdate_calendar_0 → Option Odate_calendar_0) (dom0 : ByteArray) (month1 : ByteArray) (year2 : ByteArray) : topK (addLp X 15 4 (Fdate_calendar_0 ldate_calendar_0)) K 0 f_date_calendar [(.v (.string dom0)), (.v (.string month1)), (.v (.string year2))] = Rdate_calendar K ldate_calendar_0 dom0 month1 year2 := by kernel_rfl
theorem pcdate_calendar {K : PureK} (hK : KOk X K) {ldate_calendar_0 : Sdate_calendar_0 → Option Odate_calendar_0} (hdate_calendar_0 : ∀ s o, ldate_calendar_0 s = some o → ∃ m, fuelRec (Rdate_calendar_0 K some) m s = some o) {dom0 : ByteArray} {month1 : ByteArray} {year2 : ByteArray} {v : AV} (h : Rdate_calendar K ldate_calendar_0 dom0 month1 year2 = some v) : PureCall X f_date_calendar [(.v (.string dom0)), (.v (.string month1)), (.v (.string year2))] v := by
  have hSo0 := soundX
  obtain ⟨_, _, hin0⟩ := loopIn_of (X := X) (f := 15) (i := 0) (key := 4) (by kernel_rfl)
  have hSo1 := sound_add hSo0 hin0 (okdate_calendar_0 hSo0 hK hdate_calendar_0)
  exact tell_top (X := X) (Y := (addLp X 15 4 (Fdate_calendar_0 ldate_calendar_0))) rfl rfl hSo1 hK ((topdate_calendar K ldate_calendar_0 dom0 month1 year2).trans h)

/-! 17: escheat/date.clock -/
inductive Sdate_clock_0 where
  | s0 (n7 : Int) (t26n : Bool) (t26 : List AV) (t27 : Int) (t28 : Int)

inductive Odate_clock_0 where
  | x0 (t4 : Int) (t5 : Bool) (n7 : Int)
  | x1 (n7 : Int)

def Odate_clock_0.k {β : Type} (o : Odate_clock_0) (c0 : Int → Bool → Int → Option β) (c1 : Int → Option β) : Option β := match o with
  | .x0 t4 t5 n7 => c0 t4 t5 n7
  | .x1 n7 => c1 n7

def Edate_clock_0 : Sdate_clock_0 → Env
  | .s0 n7 t26n t26 t27 t28 => [.dead, .dead, .dead, .dead, .dead, .dead, .dead, (.v (.int .i64 n7)), .dead, .dead, .dead, .dead, .dead, .dead, .dead, .dead, .dead, .dead, .dead, .dead, .dead, .dead, .dead, .dead, .dead, .dead, (.lst 1 t26n t26), (.v (.int .i64 t27)), (.v (.int .i64 t28)), .dead, .dead, .dead, .dead, .dead, .dead, .dead, .dead, .dead, .dead, .dead, .dead, .dead, .dead, .dead, .dead, .dead, .dead, .dead, .dead, .dead, .dead, .dead, .dead, .dead, .dead, .dead, .dead, .dead]

def Hdate_clock_0 : Sdate_clock_0 → Heap
  | .s0 n7 t26n t26 t27 t28 => []

def Tdate_clock_0 {β : Type} (k : Ex → Env → Heap → Option β) (o : Odate_clock_0) : Option β := Odate_clock_0.k o (fun t4 t5 n7 => k .ret [.dead, .dead, .dead, .dead, (.v (.int .i64 t4)), (.v (.bool t5)), .dead, (.v (.int .i64 n7)), .dead, .dead, .dead, .dead, .dead, .dead, .dead, .dead, .dead, .dead, .dead, .dead, .dead, .dead, .dead, .dead, .dead, .dead, .dead, .dead, .dead, .dead, .dead, .dead, .dead, .dead, .dead, .dead, .dead, .dead, .dead, .dead, .dead, .dead, .dead, .dead, .dead, .dead, .dead, .dead, .dead, .dead, .dead, .dead, .dead, .dead, .dead, .dead, .dead, .dead] []) (fun n7 => k (.exit 0) [.dead, .dead, .dead, .dead, .dead, .dead, .dead, (.v (.int .i64 n7)), .dead, .dead, .dead, .dead, .dead, .dead, .dead, .dead, .dead, .dead, .dead, .dead, .dead, .dead, .dead, .dead, .dead, .dead, .dead, .dead, .dead, .dead, .dead, .dead, .dead, .dead, .dead, .dead, .dead, .dead, .dead, .dead, .dead, .dead, .dead, .dead, .dead, .dead, .dead, .dead, .dead, .dead, .dead, .dead, .dead, .dead, .dead, .dead, .dead, .dead] [])

def Fdate_clock_0 (ldate_clock_0 : Sdate_clock_0 → Option Odate_clock_0) : LoopF := ⟨fun e h k => match Nat.beq e.length 58 with
  | true => (match e.getD 7 .dead, e.getD 26 .dead, e.getD 27 .dead, e.getD 28 .dead, h with
    | (.v (.int .i64 n7)), (.lst 1 t26n t26), (.v (.int .i64 t27)), (.v (.int .i64 t28)), [] => optK (ldate_clock_0 (.s0 n7 t26n t26 t27 t28)) (Tdate_clock_0 k)
    | _, _, _, _, _ => none)
  | false => none⟩

def cldate_clock_0 : List Tmp := [0, 1, 2, 3, 4, 5, 6, 8, 9, 10, 11, 12, 13, 14, 15, 16, 17, 18, 19, 20, 21, 22, 23, 24, 25, 29, 30, 31, 32, 33, 34, 35, 36, 37, 38, 39, 40, 41, 42, 43, 44, 45, 46, 47, 48, 49, 50, 51, 52, 53, 54, 55, 56, 57]
def clodate_clock_0 : List Tmp := [0, 1, 2, 3, 6, 8, 9, 10, 11, 12, 13, 14, 15, 16, 17, 18, 19, 20, 21, 22, 23, 24, 25, 26, 27, 28, 29, 30, 31, 32, 33, 34, 35, 36, 37, 38, 39, 40, 41, 42, 43, 44, 45, 46, 47, 48, 49, 50, 51, 52, 53, 54, 55, 56, 57]

noncomputable def Rdate_clock_0 {β : Type} (K : PureK) (d : Odate_clock_0 → Option β) (r : Sdate_clock_0 → Option β) : Sdate_clock_0 → Option β
  | .s0 n7 t26n t26 t27 t28 =>
    br (decide (t28 < t27))
      (br (decide (0 ≤ t28))
        (br (decide (t28 < ((t26.length : Nat) : Int)))
          (optK t26[t28.toNat]? fun wv1 =>
          Ab.asStr wv1 fun ws2 =>
          optK (K f_date_number [sv ws2, iv 2, iv 2]) fun wv3 =>
          Ab.asTup wv3 2 fun wg4 =>
          Ab.asInt (wg4 0) .i64 fun wn5 =>
          Ab.asBool (wg4 1) fun wb6 =>
          optK (br (!wb6)
              (some (bv true))
              (br (decide (wn5 > 59))
                (some (bv true))
                (br (t28 == 0)
                  (some (bv (decide (wn5 > 23))))
                  (some (bv false))))) fun wv7 =>
          Ab.asBool wv7 fun wb8 =>
          br wb8
            (d (.x0 0 false n7))
            (r (.s0 (w64 (w64 (n7 * 60) + wn5)) t26n t26 t27 (w64 (t28 + 1)))))
          (none))
        (none))
      (d (.x1 n7))
theorem rounddate_clock_0 (K : PureK) {β : Type} (r : Env → Heap → Option β) (k : Ex → Env → Heap → Option β) (s : Sdate_clock_0) : tellOne X K 0 17 0 [(0, 1, 0), (1, 1, 0), (2, 1, 0)] 0 cldate_clock_0 clodate_clock_0 r k (Edate_clock_0 s) (Hdate_clock_0 s) = Rdate_clock_0 K (Tdate_clock_0 k) (fun s => r (Edate_clock_0 s) (Hdate_clock_0 s)) s := by
  cases s <;> kernel_rfl
theorem Odate_clock_0.bind_k {β γ : Type} (o : Odate_clock_0) (c0 : Int → Bool → Int → Option β) (c1 : Int → Option β) (φ : β → Option γ) : (Odate_clock_0.k o c0 c1).bind φ = Odate_clock_0.k o (fun t4 t5 n7 => (c0 t4 t5 n7).bind φ) (fun n7 => (c1 n7).bind φ) := by cases o <;> rfl
theorem natdate_clock_0 (K : PureK) {β γ : Type} (φ : β → Option γ) (d : Odate_clock_0 → Option β) (r : Sdate_clock_0 → Option β) (s : Sdate_clock_0) : Rdate_clock_0 K (fun o => (d o).bind φ) (fun s => (r s).bind φ) s = (Rdate_clock_0 K d r s).bind φ := by
  cases s <;> simp only [Rdate_clock_0, bind_optK, bind_br, bind_asInt, bind_asBool, bind_asStr, bind_asLst, bind_asAgg, bind_asTup, bind_asBig, bind_asErr, bind_none]
theorem outdate_clock_0 (o : Odate_clock_0) : ∃ x e' h', ∀ {β : Type} (k : Ex → Env → Heap → Option β), Tdate_clock_0 k o = k x e' h' := by cases o <;> exact ⟨_, _, _, fun _ => rfl⟩
theorem okdate_clock_0 {K : PureK} (hX : Sound X) (hK : KOk X K) {ldate_clock_0 : Sdate_clock_0 → Option Odate_clock_0} (hl : ∀ s o, ldate_clock_0 s = some o → ∃ m, fuelRec (Rdate_clock_0 K some) m s = some o) (β : Type) (e : Env) (h : Heap) (k : Ex → Env → Heap → Option β) (r : β) (hr : (Fdate_clock_0 ldate_clock_0).run e h k = some r) : ∃ x e' h', k x e' h' = some r ∧ CodeAt X (.loop (loopBody (X).P 17 0)) e h x e' h' := by
  obtain ⟨fn, c, hin⟩ := loopIn_of (X := X) (f := 17) (i := 0) (key := 8) (by kernel_rfl)
  simp only [Fdate_clock_0] at hr
  split at hr
  · rename_i hlen
    have hlen := Nat.eq_of_beq_eq_true hlen
    split at hr
    · rename_i q7 q26 q27 q28
      obtain ⟨o, ho, hr⟩ := optK_some hr
      refine tell_ok hX (KOk.congr (X := X) (Y := X) rfl rfl hK) hin (E := Edate_clock_0) (H := Hdate_clock_0) (R := fun d r => Rdate_clock_0 K d r) (T := Tdate_clock_0) (ts := [(0, 1, 0), (1, 1, 0), (2, 1, 0)]) (len := 0) (cl := cldate_clock_0) (clo := clodate_clock_0) (rounddate_clock_0 K) (natdate_clock_0 K) outdate_clock_0 (hl _ _ ho) (cl0 := cldate_clock_0) (ts0 := []) ?_ rfl (by kernel_rfl) (by kernel_rfl) hr
      rw [clear_lit e 58 hlen, show clearEnv cldate_clock_0 ((List.range 58).map fun i => e.getD i .dead) = [.dead, .dead, .dead, .dead, .dead, .dead, .dead, e.getD 7 .dead, .dead, .dead, .dead, .dead, .dead, .dead, .dead, .dead, .dead, .dead, .dead, .dead, .dead, .dead, .dead, .dead, .dead, .dead, e.getD 26 .dead, e.getD 27 .dead, e.getD 28 .dead, .dead, .dead, .dead, .dead, .dead, .dead, .dead, .dead, .dead, .dead, .dead, .dead, .dead, .dead, .dead, .dead, .dead, .dead, .dead, .dead, .dead, .dead, .dead, .dead, .dead, .dead, .dead, .dead, .dead] from by kernel_rfl]; rw [q7, q26, q27, q28]
      kernel_rfl
    · cases hr
  · cases hr
noncomputable def Rdate_clock_f (K : PureK) (ldate_clock_0 : Sdate_clock_0 → Option Odate_clock_0) (s0 : ByteArray) : Option AV :=
  optK (K f_strings_Split [sv s0, sv { data := #[58] }]) fun wv3 =>
    Ab.asLst wv3 1 fun wb4 wr4 =>
    br (((wr4.length : Nat) : Int) != 3)
      (some (AV.tup [iv 0, bv false]))
      (optK (ldate_clock_0 (Sdate_clock_0.s0 0 wb4 wr4 (((wr4.length : Nat) : Int)) 0)) fun wo5 => Odate_clock_0.k wo5
        (fun (t4_6 : Int) (t5_6 : Bool) (n7_6 : Int) => some (AV.tup [iv t4_6, bv t5_6]))
        (fun (n7_7 : Int) => some (AV.tup [iv n7_7, bv true])))
theorem topdate_clock_f (K : PureK) (ldate_clock_0 : Sdate_clock_0 → Option Odate_clock_0) (s0 : ByteArray) : topK (addLp X 17 8 (Fdate_clock_0 ldate_clock_0)) K 0 f_date_clock [(.v (.string s0)), (.v (.bool false))] = Rdate_clock_f K ldate_clock_0 s0 := by kernel_rfl
theorem pcdate_clock_f {K : PureK} (hK : KOk X K) {ldate_clock_0 : Sdate_clock_0 → Option Odate_clock_0} (hdate_clock_0 : ∀ s o, ldate_clock_0 s = some o → ∃ m, fuelRec (Rdate_clock_0 K some) m s = some o) {s0 : ByteArray} {v : AV} (h : Rdate_clock_f K ldate_clock_0 s0 = some v) : PureCall X f_date_clock [(.v (.string s0)), (.v (.bool false))] v := by
  have hSo0 := soundX
  obtain ⟨_, _, hin0⟩ := loopIn_of (X := X) (f := 17) (i := 0) (key := 8) (by kernel_rfl)
  have hSo1 := sound_add hSo0 hin0 (okdate_clock_0 hSo0 hK hdate_clock_0)
  exact tell_top (X := X) (Y := (addLp X 17 8 (Fdate_clock_0 ldate_clock_0))) rfl rfl hSo1 hK ((topdate_clock_f K ldate_clock_0 s0).trans h)

/-! 18: escheat/date.zone -/
noncomputable def Rdate_zone (K : PureK) (s0 : ByteArray) : Option AV :=
  br (((s0.size : Nat) : Int) != 5)
      (some (AV.tup [iv 0, bv false]))
      (br (decide (1 ≤ ((s0.size : Nat) : Int)))
        (optK (K f_date_number [sv (cutStr s0 (some 1) none), iv 4, iv 4]) fun wv1 =>
        Ab.asTup wv1 2 fun wg2 =>
        Ab.asInt (wg2 0) .i64 fun wn3 =>
        Ab.asBool (wg2 1) fun wb4 =>
        optK (br (!wb4)
            (some (bv true))
            (some (bv (decide (wn3.tmod 100 > 59))))) fun wv5 =>
        Ab.asBool wv5 fun wb6 =>
        br wb6
          (some (AV.tup [iv 0, bv false]))
          (br (decide (0 < ((s0.size : Nat) : Int)))
            (br (bt s0 0 == 43)
              (some (AV.tup [iv (w64 (w64 (w64 (wn3.tdiv 100) * 3600) + w64 (wn3.tmod 100 * 60))), bv true]))
              (br (bt s0 0 == 45)
                (some (AV.tup [iv (w64 (0 - w64 (w64 (w64 (wn3.tdiv 100) * 3600) + w64 (wn3.tmod 100 * 60)))), bv true]))
                (some (AV.tup [iv 0, bv false]))))
            (none)))
        (none))
theorem topdate_zone (K : PureK) (s0 : ByteArray) : topK X K 0 f_date_zone [(.v (.string s0))] = Rdate_zone K s0 := by kernel_rfl
theorem pcdate_zone {K : PureK} (hK : KOk X K) {s0 : ByteArray} {v : AV} (h : Rdate_zone K s0 = some v) : PureCall X f_date_zone [(.v (.string s0))] v := by
  have hSo0 := soundX
  exact tell_top (X := X) (Y := X) rfl rfl hSo0 hK ((topdate_zone K s0).trans h)

/-! 7: escheat/date.Parse -/
noncomputable def Rdate_Parse (K : PureK) (s0 : ByteArray) : Option AV :=
  optK (br (((s0.size : Nat) : Int) != 26)
        (some (bv true))
        (br (decide (11 < ((s0.size : Nat) : Int)))
          (br (bt s0 11 != 32)
            (some (bv true))
            (br (decide (20 < ((s0.size : Nat) : Int)))
              (some (bv (bt s0 20 != 32)))
              (none)))
          (none))) fun wv1 =>
    Ab.asBool wv1 fun wb2 =>
    br wb2
      (some (AV.tup [iv 0, iv 3]))
      (br (decide (11 ≤ ((s0.size : Nat) : Int)))
        (optK (K f_strings_Split [sv (cutStr s0 none (some 11)), sv { data := #[45] }]) fun wv3 =>
        Ab.asLst wv3 1 fun wb4 wr4 =>
        optK (br (((wr4.length : Nat) : Int) != 3)
            (some (bv true))
            (br (decide (0 < ((wr4.length : Nat) : Int)))
              (optK wr4[0]? fun wv6 =>
              Ab.asStr wv6 fun ws7 =>
              some (bv (((ws7.size : Nat) : Int) != 2)))
              (none))) fun wv5 =>
        Ab.asBool wv5 fun wb8 =>
        br wb8
          (some (AV.tup [iv 0, iv 3]))
          (br (decide (0 < ((wr4.length : Nat) : Int)))
            (optK wr4[0]? fun wv9 =>
            Ab.asStr wv9 fun ws10 =>
            optK (K f_strings_TrimPrefix [sv ws10, sv { data := #[32] }]) fun wv11 =>
            Ab.asStr wv11 fun ws12 =>
            br (decide (1 < ((wr4.length : Nat) : Int)))
              (optK wr4[1]? fun wv13 =>
              Ab.asStr wv13 fun ws14 =>
              br (decide (2 < ((wr4.length : Nat) : Int)))
                (optK wr4[2]? fun wv15 =>
                Ab.asStr wv15 fun ws16 =>
                optK (K f_date_calendar [sv ws12, sv ws14, sv ws16]) fun wv17 =>
                Ab.asTup wv17 2 fun wg18 =>
                Ab.asInt (wg18 0) .i64 fun wn19 =>
                Ab.asBool (wg18 1) fun wb20 =>
                br (decide (20 ≤ ((s0.size : Nat) : Int)))
                  (optK (K f_date_clock [sv (cutStr s0 (some 12) (some 20)), bv false]) fun wv21 =>
                  Ab.asTup wv21 2 fun wg22 =>
                  Ab.asInt (wg22 0) .i64 fun wn23 =>
                  Ab.asBool (wg22 1) fun wb24 =>
                  br (decide (21 ≤ ((s0.size : Nat) : Int)))
                    (optK (K f_date_zone [sv (cutStr s0 (some 21) none)]) fun wv25 =>
                    Ab.asTup wv25 2 fun wg26 =>
                    Ab.asInt (wg26 0) .i64 fun wn27 =>
                    Ab.asBool (wg26 1) fun wb28 =>
                    optK (br (!wb20)
                        (some (bv true))
                        (br (!wb24)
                          (some (bv true))
                          (some (bv !wb28)))) fun wv29 =>
                    Ab.asBool wv29 fun wb30 =>
                    br wb30
                      (some (AV.tup [iv 0, iv 3]))
                      (optK (br (decide (w64 (w64 (w64 (wn19 * 86400) + wn23) - wn27) < 0))
                          (some (bv true))
                          (some (bv (decide (w64 (w64 (w64 (wn19 * 86400) + wn23) - wn27) > 253402300799))))) fun wv31 =>
                      Ab.asBool wv31 fun wb32 =>
                      br wb32
                        (some (AV.tup [iv 0, iv 15]))
                        (some (AV.tup [iv (w64 (w64 (w64 (wn19 * 86400) + wn23) - wn27)), iv 0]))))
                    (none))
                  (none))
                (none))
              (none))
            (none)))
        (none))
theorem topdate_Parse (K : PureK) (s0 : ByteArray) : topK X K 0 f_date_Parse [(.v (.string s0))] = Rdate_Parse K s0 := by kernel_rfl
theorem pcdate_Parse {K : PureK} (hK : KOk X K) {s0 : ByteArray} {v : AV} (h : Rdate_Parse K s0 = some v) : PureCall X f_date_Parse [(.v (.string s0))] v := by
  have hSo0 := soundX
  exact tell_top (X := X) (Y := X) rfl rfl hSo0 hK ((topdate_Parse K s0).trans h)

/-! 13: escheat/date.two -/
noncomputable def Rdate_two (K : PureK) (n0 : Int) : Option AV :=
  some (sv { data := [UInt8.ofNat (w8 (w64 (48 + n0.tmod 10))).toNat, UInt8.ofNat (w8 (w64 (48 + (w64 (n0.tdiv 10)).tmod 10))).toNat].reverse.toArray })
theorem topdate_two (K : PureK) (n0 : Int) : topK X K 0 f_date_two [(.v (.int .i64 n0))] = Rdate_two K n0 := by kernel_rfl
theorem pcdate_two {K : PureK} (hK : KOk X K) {n0 : Int} {v : AV} (h : Rdate_two K n0 = some v) : PureCall X f_date_two [(.v (.int .i64 n0))] v := by
  have hSo0 := soundX
  exact tell_top (X := X) (Y := X) rfl rfl hSo0 hK ((topdate_two K n0).trans h)

/-! 9: escheat/date.Day -/
noncomputable def Rdate_Day (K : PureK) (t0 : Int) : Option AV :=
  br (decide (t0 < 0))
      (some (iv (-1)))
      (some (iv (w64 (t0.tdiv 86400))))
theorem topdate_Day (K : PureK) (t0 : Int) : topK X K 0 f_date_Day [(.v (.int .i64 t0))] = Rdate_Day K t0 := by kernel_rfl
theorem pcdate_Day {K : PureK} (hK : KOk X K) {t0 : Int} {v : AV} (h : Rdate_Day K t0 = some v) : PureCall X f_date_Day [(.v (.int .i64 t0))] v := by
  have hSo0 := soundX
  exact tell_top (X := X) (Y := X) rfl rfl hSo0 hK ((topdate_Day K t0).trans h)

/-! 6: escheat/date.Print -/
noncomputable def Rdate_Print (K : PureK) (t0 : Int) : Option AV :=
  optK (br (decide (t0 < 0))
        (some (bv true))
        (some (bv (decide (t0 > 253402300799))))) fun wv1 =>
    Ab.asBool wv1 fun wb2 =>
    br wb2
      (some (AV.tup [sv { data := #[] }, iv 15]))
      (optK (K f_date_Day [iv t0]) fun wv3 =>
      Ab.asInt wv3 .i64 fun wn4 =>
      optK (K f_date_Civil [iv wn4]) fun wv5 =>
      Ab.asTup wv5 3 fun wg6 =>
      Ab.asInt (wg6 0) .i64 fun wn7 =>
      Ab.asInt (wg6 1) .i64 fun wn8 =>
      Ab.asInt (wg6 2) .i64 fun wn9 =>
      optK (K f_date_two [iv wn9]) fun wv10 =>
      Ab.asStr wv10 fun ws11 =>
      br (decide (wn9 < 10))
        (br (decide (1 ≤ ((ws11.size : Nat) : Int)))
          (br ((1 + (cutStr ws11 (some 1) none).size).ble maxStr)
            (br ((({ data := #[32] } ++ cutStr ws11 (some 1) none).size + 1).ble maxStr)
              (br (decide (0 ≤ w64 (wn8 - 1)))
                (br (decide (w64 (wn8 - 1) < 12))
                  (optK (gl_date_names[0 + (w64 (wn8 - 1)).toNat * 1]?) fun wv12 =>
                  Ab.asStr wv12 fun ws13 =>
                  br ((({ data := #[32] } ++ cutStr ws11 (some 1) none ++ { data := #[45] }).size + ws13.size).ble maxStr)
                    (br ((({ data := #[32] } ++ cutStr ws11 (some 1) none ++ { data := #[45] } ++ ws13).size + 1).ble maxStr)
                      (optK (K f_date_two [iv (w64 (wn7.tdiv 100))]) fun wv14 =>
                      Ab.asStr wv14 fun ws15 =>
                      br ((({ data := #[32] } ++ cutStr ws11 (some 1) none ++ { data := #[45] } ++ ws13 ++ { data := #[45] }).size + ws15.size).ble maxStr)
                        (optK (K f_date_two [iv (wn7.tmod 100)]) fun wv16 =>
                        Ab.asStr wv16 fun ws17 =>
                        br ((({ data := #[32] } ++ cutStr ws11 (some 1) none ++ { data := #[45] } ++ ws13 ++ { data := #[45] } ++ ws15).size + ws17.size).ble maxStr)
                          (br ((({ data := #[32] } ++ cutStr ws11 (some 1) none ++ { data := #[45] } ++ ws13 ++ { data := #[45] } ++ ws15 ++ ws17).size + 1).ble maxStr)
                            (optK (K f_date_two [iv (w64 ((t0.tmod 86400).tdiv 3600))]) fun wv18 =>
                            Ab.asStr wv18 fun ws19 =>
                            br ((({ data := #[32] } ++ cutStr ws11 (some 1) none ++ { data := #[45] } ++ ws13 ++ { data := #[45] } ++ ws15 ++ ws17 ++ { data := #[32] }).size + ws19.size).ble maxStr)
                              (br ((({ data := #[32] } ++ cutStr ws11 (some 1) none ++ { data := #[45] } ++ ws13 ++ { data := #[45] } ++ ws15 ++ ws17 ++ { data := #[32] } ++ ws19).size + 1).ble maxStr)
                                (optK (K f_date_two [iv ((w64 ((t0.tmod 86400).tdiv 60)).tmod 60)]) fun wv20 =>
                                Ab.asStr wv20 fun ws21 =>
                                br ((({ data := #[32] } ++ cutStr ws11 (some 1) none ++ { data := #[45] } ++ ws13 ++ { data := #[45] } ++ ws15 ++ ws17 ++ { data := #[32] } ++ ws19 ++ { data := #[58] }).size + ws21.size).ble maxStr)
                                  (br ((({ data := #[32] } ++ cutStr ws11 (some 1) none ++ { data := #[45] } ++ ws13 ++ { data := #[45] } ++ ws15 ++ ws17 ++ { data := #[32] } ++ ws19 ++ { data := #[58] } ++ ws21).size + 1).ble maxStr)
                                    (optK (K f_date_two [iv ((t0.tmod 86400).tmod 60)]) fun wv22 =>
                                    Ab.asStr wv22 fun ws23 =>
                                    br ((({ data := #[32] } ++ cutStr ws11 (some 1) none ++ { data := #[45] } ++ ws13 ++ { data := #[45] } ++ ws15 ++ ws17 ++ { data := #[32] } ++ ws19 ++ { data := #[58] } ++ ws21 ++ { data := #[58] }).size + ws23.size).ble maxStr)
                                      (br ((({ data := #[32] } ++ cutStr ws11 (some 1) none ++ { data := #[45] } ++ ws13 ++ { data := #[45] } ++ ws15 ++ ws17 ++ { data := #[32] } ++ ws19 ++ { data := #[58] } ++ ws21 ++ { data := #[58] } ++ ws23).size + 6).ble maxStr)
                                        (some (AV.tup [sv ({ data := #[32] } ++ cutStr ws11 (some 1) none ++ { data := #[45] } ++ ws13 ++ { data := #[45] } ++ ws15 ++ ws17 ++ { data := #[32] } ++ ws19 ++ { data := #[58] } ++ ws21 ++ { data := #[58] } ++ ws23 ++ { data := #[32, 43, 48, 48, 48, 48] }), iv 0]))
                                        (none))
                                      (none))
                                    (none))
                                  (none))
                                (none))
                              (none))
                            (none))
                          (none))
                        (none))
                      (none))
                    (none))
                  (none))
                (none))
              (none))
            (none))
          (none))
        (br ((ws11.size + 1).ble maxStr)
          (br (decide (0 ≤ w64 (wn8 - 1)))
            (br (decide (w64 (wn8 - 1) < 12))
              (optK (gl_date_names[0 + (w64 (wn8 - 1)).toNat * 1]?) fun wv24 =>
              Ab.asStr wv24 fun ws25 =>
              br (((ws11 ++ { data := #[45] }).size + ws25.size).ble maxStr)
                (br (((ws11 ++ { data := #[45] } ++ ws25).size + 1).ble maxStr)
                  (optK (K f_date_two [iv (w64 (wn7.tdiv 100))]) fun wv26 =>
                  Ab.asStr wv26 fun ws27 =>
                  br (((ws11 ++ { data := #[45] } ++ ws25 ++ { data := #[45] }).size + ws27.size).ble maxStr)
                    (optK (K f_date_two [iv (wn7.tmod 100)]) fun wv28 =>
                    Ab.asStr wv28 fun ws29 =>
                    br (((ws11 ++ { data := #[45] } ++ ws25 ++ { data := #[45] } ++ ws27).size + ws29.size).ble maxStr)
                      (br (((ws11 ++ { data := #[45] } ++ ws25 ++ { data := #[45] } ++ ws27 ++ ws29).size + 1).ble maxStr)
                        (optK (K f_date_two [iv (w64 ((t0.tmod 86400).tdiv 3600))]) fun wv30 =>
                        Ab.asStr wv30 fun ws31 =>
                        br (((ws11 ++ { data := #[45] } ++ ws25 ++ { data := #[45] } ++ ws27 ++ ws29 ++ { data := #[32] }).size + ws31.size).ble maxStr)
                          (br (((ws11 ++ { data := #[45] } ++ ws25 ++ { data := #[45] } ++ ws27 ++ ws29 ++ { data := #[32] } ++ ws31).size + 1).ble maxStr)
                            (optK (K f_date_two [iv ((w64 ((t0.tmod 86400).tdiv 60)).tmod 60)]) fun wv32 =>
                            Ab.asStr wv32 fun ws33 =>
                            br (((ws11 ++ { data := #[45] } ++ ws25 ++ { data := #[45] } ++ ws27 ++ ws29 ++ { data := #[32] } ++ ws31 ++ { data := #[58] }).size + ws33.size).ble maxStr)
                              (br (((ws11 ++ { data := #[45] } ++ ws25 ++ { data := #[45] } ++ ws27 ++ ws29 ++ { data := #[32] } ++ ws31 ++ { data := #[58] } ++ ws33).size + 1).ble maxStr)
                                (optK (K f_date_two [iv ((t0.tmod 86400).tmod 60)]) fun wv34 =>
                                Ab.asStr wv34 fun ws35 =>
                                br (((ws11 ++ { data := #[45] } ++ ws25 ++ { data := #[45] } ++ ws27 ++ ws29 ++ { data := #[32] } ++ ws31 ++ { data := #[58] } ++ ws33 ++ { data := #[58] }).size + ws35.size).ble maxStr)
                                  (br (((ws11 ++ { data := #[45] } ++ ws25 ++ { data := #[45] } ++ ws27 ++ ws29 ++ { data := #[32] } ++ ws31 ++ { data := #[58] } ++ ws33 ++ { data := #[58] } ++ ws35).size + 6).ble maxStr)
                                    (some (AV.tup [sv (ws11 ++ { data := #[45] } ++ ws25 ++ { data := #[45] } ++ ws27 ++ ws29 ++ { data := #[32] } ++ ws31 ++ { data := #[58] } ++ ws33 ++ { data := #[58] } ++ ws35 ++ { data := #[32, 43, 48, 48, 48, 48] }), iv 0]))
                                    (none))
                                  (none))
                                (none))
                              (none))
                            (none))
                          (none))
                        (none))
                      (none))
                    (none))
                  (none))
                (none))
              (none))
            (none))
          (none)))
theorem topdate_Print (K : PureK) (t0 : Int) : topK X K 0 f_date_Print [(.v (.int .i64 t0))] = Rdate_Print K t0 := by kernel_rfl
theorem pcdate_Print {K : PureK} (hK : KOk X K) {t0 : Int} {v : AV} (h : Rdate_Print K t0 = some v) : PureCall X f_date_Print [(.v (.int .i64 t0))] v := by
  have hSo0 := soundX
  exact tell_top (X := X) (Y := X) rfl rfl hSo0 hK ((topdate_Print K t0).trans h)

end Go.Proofs.YtmiffikcnkgcpaaDoor
