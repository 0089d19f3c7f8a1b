import Derived.Test.YtckbjhmiopjlkaaDoorCtx
set_option maxRecDepth 100000
set_option linter.unusedVariables false
set_option linter.unusedSimpArgs false
namespace Go.Proofs.YtckbjhmiopjlkaaDoor
open Go Go.Ab
/-! 11: escheat/escheatref09.Rising -/
inductive Sref09_Rising_0 where
  | s0 (l0n : Bool) (l0 : List AV) (i3 : Int)

inductive Oref09_Rising_0 where
  | x0 (t2 : Bool)
  | x1

def Oref09_Rising_0.k {β : Type} (o : Oref09_Rising_0) (c0 : Bool → Option β) (c1 : Option β) : Option β := match o with
  | .x0 t2 => c0 t2
  | .x1 => c1

def Eref09_Rising_0 : Sref09_Rising_0 → Env
  | .s0 l0n l0 i3 => [(.lst 1 l0n l0), .dead, .dead, (.v (.int .i64 i3)), .dead, .dead, .dead, .dead, .dead, .dead, .dead, .dead, .dead, .dead, .dead, .dead, .dead, .dead, .dead, .dead, .dead, .dead, .dead, .dead, .dead, .dead, .dead, .dead, .dead, .dead, .dead, .dead, .dead, .dead, .dead, .dead, .dead, .dead]

def Href09_Rising_0 : Sref09_Rising_0 → Heap
  | .s0 l0n l0 i3 => []

def Tref09_Rising_0 {β : Type} (k : Ex → Env → Heap → Option β) (o : Oref09_Rising_0) : Option β := Oref09_Rising_0.k o (fun t2 => k .ret [.dead, .dead, (.v (.bool t2)), .dead, .dead, .dead, .dead, .dead, .dead, .dead, .dead, .dead, .dead, .dead, .dead, .dead, .dead, .dead, .dead, .dead, .dead, .dead, .dead, .dead, .dead, .dead, .dead, .dead, .dead, .dead, .dead, .dead, .dead, .dead, .dead, .dead, .dead, .dead] []) (k (.exit 0) [.dead, .dead, .dead, .dead, .dead, .dead, .dead, .dead, .dead, .dead, .dead, .dead, .dead, .dead, .dead, .dead, .dead, .dead, .dead, .dead, .dead, .dead, .dead, .dead, .dead, .dead, .dead, .dead, .dead, .dead, .dead, .dead, .dead, .dead, .dead, .dead, .dead, .dead] [])

def Fref09_Rising_0 (lref09_Rising_0 : Sref09_Rising_0 → Option Oref09_Rising_0) : LoopF := ⟨fun e h k => match Nat.beq e.length 38 with
  | true => (match e.getD 0 .dead, e.getD 3 .dead, h with
    | (.lst 1 l0n l0), (.v (.int .i64 i3)), [] => optK (lref09_Rising_0 (.s0 l0n l0 i3)) (Tref09_Rising_0 k)
    | _, _, _ => none)
  | false => none⟩

def clref09_Rising_0 : List Tmp := [1, 2, 4, 5, 6, 7, 8, 9, 10, 11, 12, 13, 14, 15, 16, 17, 18, 19, 20, 21, 22, 23, 24, 25, 26, 27, 28, 29, 30, 31, 32, 33, 34, 35, 36, 37]
def cloref09_Rising_0 : List Tmp := [0, 1, 3, 4, 5, 6, 7, 8, 9, 10, 11, 12, 13, 14, 15, 16, 17, 18, 19, 20, 21, 22, 23, 24, 25, 26, 27, 28, 29, 30, 31, 32, 33, 34, 35, 36, 37]

noncomputable def Rref09_Rising_0 {β : Type} (K : PureK) (d : Oref09_Rising_0 → Option β) (r : Sref09_Rising_0 → Option β) : Sref09_Rising_0 → Option β
  | .s0 l0n l0 i3 =>
    br (decide (i3 < ((l0.length : Nat) : Int)))
      (optK (br (decide (0 ≤ i3))
          (br (decide (i3 < ((l0.length : Nat) : Int)))
            (optK l0[i3.toNat]? fun wv2 =>
            Ab.asInt wv2 .i64 fun wn3 =>
            br (decide (wn3 < 1))
              (some (bv true))
              (br (decide (0 ≤ i3))
                (br (decide (i3 < ((l0.length : Nat) : Int)))
                  (optK l0[i3.toNat]? fun wv4 =>
                  Ab.asInt wv4 .i64 fun wn5 =>
                  br (decide (wn5 > 4294967295))
                    (some (bv true))
                    (br (decide (i3 > 0))
                      (br (decide (0 ≤ w64 (i3 - 1)))
                        (br (decide (w64 (i3 - 1) < ((l0.length : Nat) : Int)))
                          (optK (l0[(w64 (i3 - 1)).toNat]?) fun wv6 =>
                          Ab.asInt wv6 .i64 fun wn7 =>
                          br (decide (0 ≤ i3))
                            (br (decide (i3 < ((l0.length : Nat) : Int)))
                              (optK l0[i3.toNat]? fun wv8 =>
                              Ab.asInt wv8 .i64 fun wn9 =>
                              some (bv (decide (wn7 ≥ wn9))))
                              (none))
                            (none))
                          (none))
                        (none))
                      (some (bv false))))
                  (none))
                (none)))
            (none))
          (none)) fun wv1 =>
      Ab.asBool wv1 fun wb10 =>
      br wb10
        (d (.x0 false))
        (r (.s0 l0n l0 (w64 (i3 + 1)))))
      (d (.x1))
theorem roundref09_Rising_0 (K : PureK) {β : Type} (r : Env → Heap → Option β) (k : Ex → Env → Heap → Option β) (s : Sref09_Rising_0) : tellOne X K 0 11 0 [(0, 1, 0), (1, 1, 0), (2, 1, 0)] 0 clref09_Rising_0 cloref09_Rising_0 r k (Eref09_Rising_0 s) (Href09_Rising_0 s) = Rref09_Rising_0 K (Tref09_Rising_0 k) (fun s => r (Eref09_Rising_0 s) (Href09_Rising_0 s)) s := by
  cases s <;> kernel_rfl
theorem Oref09_Rising_0.bind_k {β γ : Type} (o : Oref09_Rising_0) (c0 : Bool → Option β) (c1 : Option β) (φ : β → Option γ) : (Oref09_Rising_0.k o c0 c1).bind φ = Oref09_Rising_0.k o (fun t2 => (c0 t2).bind φ) (c1.bind φ) := by cases o <;> rfl
theorem natref09_Rising_0 (K : PureK) {β γ : Type} (φ : β → Option γ) (d : Oref09_Rising_0 → Option β) (r : Sref09_Rising_0 → Option β) (s : Sref09_Rising_0) : Rref09_Rising_0 K (fun o => (d o).bind φ) (fun s => (r s).bind φ) s = (Rref09_Rising_0 K d r s).bind φ := by
  cases s <;> simp only [Rref09_Rising_0, bind_optK, bind_br, bind_asInt, bind_asBool, bind_asStr, bind_asLst, bind_asAgg, bind_asTup, bind_asBig, bind_asErr, bind_none]
theorem outref09_Rising_0 (o : Oref09_Rising_0) : ∃ x e' h', ∀ {β : Type} (k : Ex → Env → Heap → Option β), Tref09_Rising_0 k o = k x e' h' := by cases o <;> exact ⟨_, _, _, fun _ => rfl⟩
theorem okref09_Rising_0 {K : PureK} (hX : Sound X) (hK : KOk X K) {lref09_Rising_0 : Sref09_Rising_0 → Option Oref09_Rising_0} (hl : ∀ s o, lref09_Rising_0 s = some o → ∃ m, fuelRec (Rref09_Rising_0 K some) m s = some o) (β : Type) (e : Env) (h : Heap) (k : Ex → Env → Heap → Option β) (r : β) (hr : (Fref09_Rising_0 lref09_Rising_0).run e h k = some r) : ∃ x e' h', k x e' h' = some r ∧ CodeAt X (.loop (loopBody (X).P 11 0)) e h x e' h' := by
  obtain ⟨fn, c, hin⟩ := loopIn_of (X := X) (f := 11) (i := 0) (key := 2) (by kernel_rfl)
  simp only [Fref09_Rising_0] at hr
  split at hr
  · rename_i hlen
    have hlen := Nat.eq_of_beq_eq_true hlen
    split at hr
    · rename_i q0 q3
      obtain ⟨o, ho, hr⟩ := optK_some hr
      refine tell_ok hX (KOk.congr (X := X) (Y := X) rfl rfl hK) hin (E := Eref09_Rising_0) (H := Href09_Rising_0) (R := fun d r => Rref09_Rising_0 K d r) (T := Tref09_Rising_0) (ts := [(0, 1, 0), (1, 1, 0), (2, 1, 0)]) (len := 0) (cl := clref09_Rising_0) (clo := cloref09_Rising_0) (roundref09_Rising_0 K) (natref09_Rising_0 K) outref09_Rising_0 (hl _ _ ho) (cl0 := clref09_Rising_0) (ts0 := []) ?_ rfl (by kernel_rfl) (by kernel_rfl) hr
      rw [clear_lit e 38 hlen, show clearEnv clref09_Rising_0 ((List.range 38).map fun i => e.getD i .dead) = [e.getD 0 .dead, .dead, .dead, e.getD 3 .dead, .dead, .dead, .dead, .dead, .dead, .dead, .dead, .dead, .dead, .dead, .dead, .dead, .dead, .dead, .dead, .dead, .dead, .dead, .dead, .dead, .dead, .dead, .dead, .dead, .dead, .dead, .dead, .dead, .dead, .dead, .dead, .dead, .dead, .dead] from by kernel_rfl]; rw [q0, q3]
      kernel_rfl
    · cases hr
  · cases hr
noncomputable def Rref09_Rising (K : PureK) (lref09_Rising_0 : Sref09_Rising_0 → Option Oref09_Rising_0) (l0n : Bool) (l0 : List AV) : Option AV :=
  optK (lref09_Rising_0 (Sref09_Rising_0.s0 l0n l0 0)) fun wo1 => Oref09_Rising_0.k wo1
      (fun (t2_2 : Bool) => some (bv t2_2))
      (some (bv true))
theorem topref09_Rising (K : PureK) (lref09_Rising_0 : Sref09_Rising_0 → Option Oref09_Rising_0) (l0n : Bool) (l0 : List AV) : topK (addLp X 11 2 (Fref09_Rising_0 lref09_Rising_0)) K 0 f_ref09_Rising [(.lst 1 l0n l0)] = Rref09_Rising K lref09_Rising_0 l0n l0 := by kernel_rfl
theorem pcref09_Rising {K : PureK} (hK : KOk X K) {lref09_Rising_0 : Sref09_Rising_0 → Option Oref09_Rising_0} (href09_Rising_0 : ∀ s o, lref09_Rising_0 s = some o → ∃ m, fuelRec (Rref09_Rising_0 K some) m s = some o) {l0n : Bool} {l0 : List AV} {v : AV} (h : Rref09_Rising K lref09_Rising_0 l0n l0 = some v) : PureCall X f_ref09_Rising [(.lst 1 l0n l0)] v := by
  have hSo0 := soundX
  obtain ⟨_, _, hin0⟩ := loopIn_of (X := X) (f := 11) (i := 0) (key := 2) (by kernel_rfl)
  have hSo1 := sound_add hSo0 hin0 (okref09_Rising_0 hSo0 hK href09_Rising_0)
  exact tell_top (X := X) (Y := (addLp X 11 2 (Fref09_Rising_0 lref09_Rising_0))) rfl rfl hSo1 hK ((topref09_Rising K lref09_Rising_0 l0n l0).trans h)

/-! 12: escheat/escheatref09.Ints -/
inductive Sref09_Ints_0 where
  | s0 (a0n : Bool) (a0 : List AV) (b1n : Bool) (b1 : List AV) (i5 : Int)

inductive Oref09_Ints_0 where
  | x0 (t4 : Bool)
  | x1

def Oref09_Ints_0.k {β : Type} (o : Oref09_Ints_0) (c0 : Bool → Option β) (c1 : Option β) : Option β := match o with
  | .x0 t4 => c0 t4
  | .x1 => c1

def Eref09_Ints_0 : Sref09_Ints_0 → Env
  | .s0 a0n a0 b1n b1 i5 => [(.lst 1 a0n a0), (.lst 1 b1n b1), .dead, .dead, .dead, (.v (.int .i64 i5)), .dead, .dead, .dead, .dead, .dead, .dead, .dead, .dead, .dead, .dead, .dead, .dead, .dead, .dead, .dead, .dead, .dead, .dead, .dead, .dead]

def Href09_Ints_0 : Sref09_Ints_0 → Heap
  | .s0 a0n a0 b1n b1 i5 => []

def Tref09_Ints_0 {β : Type} (k : Ex → Env → Heap → Option β) (o : Oref09_Ints_0) : Option β := Oref09_Ints_0.k o (fun t4 => k .ret [.dead, .dead, .dead, .dead, (.v (.bool t4)), .dead, .dead, .dead, .dead, .dead, .dead, .dead, .dead, .dead, .dead, .dead, .dead, .dead, .dead, .dead, .dead, .dead, .dead, .dead, .dead, .dead] []) (k (.exit 0) [.dead, .dead, .dead, .dead, .dead, .dead, .dead, .dead, .dead, .dead, .dead, .dead, .dead, .dead, .dead, .dead, .dead, .dead, .dead, .dead, .dead, .dead, .dead, .dead, .dead, .dead] [])

def Fref09_Ints_0 (lref09_Ints_0 : Sref09_Ints_0 → Option Oref09_Ints_0) : LoopF := ⟨fun e h k => match Nat.beq e.length 26 with
  | true => (match e.getD 0 .dead, e.getD 1 .dead, e.getD 5 .dead, h with
    | (.lst 1 a0n a0), (.lst 1 b1n b1), (.v (.int .i64 i5)), [] => optK (lref09_Ints_0 (.s0 a0n a0 b1n b1 i5)) (Tref09_Ints_0 k)
    | _, _, _, _ => none)
  | false => none⟩

def clref09_Ints_0 : List Tmp := [2, 3, 4, 6, 7, 8, 9, 10, 11, 12, 13, 14, 15, 16, 17, 18, 19, 20, 21, 22, 23, 24, 25]
def cloref09_Ints_0 : List Tmp := [0, 1, 2, 3, 5, 6, 7, 8, 9, 10, 11, 12, 13, 14, 15, 16, 17, 18, 19, 20, 21, 22, 23, 24, 25]

noncomputable def Rref09_Ints_0 {β : Type} (K : PureK) (d : Oref09_Ints_0 → Option β) (r : Sref09_Ints_0 → Option β) : Sref09_Ints_0 → Option β
  | .s0 a0n a0 b1n b1 i5 =>
    br (decide (i5 < ((a0.length : Nat) : Int)))
      (br (decide (0 ≤ i5))
        (br (decide (i5 < ((a0.length : Nat) : Int)))
          (optK a0[i5.toNat]? fun wv1 =>
          Ab.asInt wv1 .i64 fun wn2 =>
          br (decide (0 ≤ i5))
            (br (decide (i5 < ((b1.length : Nat) : Int)))
              (optK b1[i5.toNat]? fun wv3 =>
              Ab.asInt wv3 .i64 fun wn4 =>
              br (wn2 != wn4)
                (d (.x0 false))
                (r (.s0 a0n a0 b1n b1 (w64 (i5 + 1)))))
              (none))
            (none))
          (none))
        (none))
      (d (.x1))
theorem roundref09_Ints_0 (K : PureK) {β : Type} (r : Env → Heap → Option β) (k : Ex → Env → Heap → Option β) (s : Sref09_Ints_0) : tellOne X K 0 12 0 [(0, 1, 0), (1, 1, 0), (2, 1, 0)] 0 clref09_Ints_0 cloref09_Ints_0 r k (Eref09_Ints_0 s) (Href09_Ints_0 s) = Rref09_Ints_0 K (Tref09_Ints_0 k) (fun s => r (Eref09_Ints_0 s) (Href09_Ints_0 s)) s := by
  cases s <;> kernel_rfl
theorem Oref09_Ints_0.bind_k {β γ : Type} (o : Oref09_Ints_0) (c0 : Bool → Option β) (c1 : Option β) (φ : β → Option γ) : (Oref09_Ints_0.k o c0 c1).bind φ = Oref09_Ints_0.k o (fun t4 => (c0 t4).bind φ) (c1.bind φ) := by cases o <;> rfl
theorem natref09_Ints_0 (K : PureK) {β γ : Type} (φ : β → Option γ) (d : Oref09_Ints_0 → Option β) (r : Sref09_Ints_0 → Option β) (s : Sref09_Ints_0) : Rref09_Ints_0 K (fun o => (d o).bind φ) (fun s => (r s).bind φ) s = (Rref09_Ints_0 K d r s).bind φ := by
  cases s <;> simp only [Rref09_Ints_0, bind_optK, bind_br, bind_asInt, bind_asBool, bind_asStr, bind_asLst, bind_asAgg, bind_asTup, bind_asBig, bind_asErr, bind_none]
theorem outref09_Ints_0 (o : Oref09_Ints_0) : ∃ x e' h', ∀ {β : Type} (k : Ex → Env → Heap → Option β), Tref09_Ints_0 k o = k x e' h' := by cases o <;> exact ⟨_, _, _, fun _ => rfl⟩
theorem okref09_Ints_0 {K : PureK} (hX : Sound X) (hK : KOk X K) {lref09_Ints_0 : Sref09_Ints_0 → Option Oref09_Ints_0} (hl : ∀ s o, lref09_Ints_0 s = some o → ∃ m, fuelRec (Rref09_Ints_0 K some) m s = some o) (β : Type) (e : Env) (h : Heap) (k : Ex → Env → Heap → Option β) (r : β) (hr : (Fref09_Ints_0 lref09_Ints_0).run e h k = some r) : ∃ x e' h', k x e' h' = some r ∧ CodeAt X (.loop (loopBody (X).P 12 0)) e h x e' h' := by
  obtain ⟨fn, c, hin⟩ := loopIn_of (X := X) (f := 12) (i := 0) (key := 4) (by kernel_rfl)
  simp only [Fref09_Ints_0] at hr
  split at hr
  · rename_i hlen
    have hlen := Nat.eq_of_beq_eq_true hlen
    split at hr
    · rename_i q0 q1 q5
      obtain ⟨o, ho, hr⟩ := optK_some hr
      refine tell_ok hX (KOk.congr (X := X) (Y := X) rfl rfl hK) hin (E := Eref09_Ints_0) (H := Href09_Ints_0) (R := fun d r => Rref09_Ints_0 K d r) (T := Tref09_Ints_0) (ts := [(0, 1, 0), (1, 1, 0), (2, 1, 0)]) (len := 0) (cl := clref09_Ints_0) (clo := cloref09_Ints_0) (roundref09_Ints_0 K) (natref09_Ints_0 K) outref09_Ints_0 (hl _ _ ho) (cl0 := clref09_Ints_0) (ts0 := []) ?_ rfl (by kernel_rfl) (by kernel_rfl) hr
      rw [clear_lit e 26 hlen, show clearEnv clref09_Ints_0 ((List.range 26).map fun i => e.getD i .dead) = [e.getD 0 .dead, e.getD 1 .dead, .dead, .dead, .dead, e.getD 5 .dead, .dead, .dead, .dead, .dead, .dead, .dead, .dead, .dead, .dead, .dead, .dead, .dead, .dead, .dead, .dead, .dead, .dead, .dead, .dead, .dead] from by kernel_rfl]; rw [q0, q1, q5]
      kernel_rfl
    · cases hr
  · cases hr
noncomputable def Rref09_Ints (K : PureK) (lref09_Ints_0 : Sref09_Ints_0 → Option Oref09_Ints_0) (a0n : Bool) (a0 : List AV) (b1n : Bool) (b1 : List AV) : Option AV :=
  br (((a0.length : Nat) : Int) != ((b1.length : Nat) : Int))
      (some (bv false))
      (optK (lref09_Ints_0 (Sref09_Ints_0.s0 a0n a0 b1n b1 0)) fun wo1 => Oref09_Ints_0.k wo1
        (fun (t4_2 : Bool) => some (bv t4_2))
        (some (bv true)))
theorem topref09_Ints (K : PureK) (lref09_Ints_0 : Sref09_Ints_0 → Option Oref09_Ints_0) (a0n : Bool) (a0 : List AV) (b1n : Bool) (b1 : List AV) : topK (addLp X 12 4 (Fref09_Ints_0 lref09_Ints_0)) K 0 f_ref09_Ints [(.lst 1 a0n a0), (.lst 1 b1n b1)] = Rref09_Ints K lref09_Ints_0 a0n a0 b1n b1 := by kernel_rfl
theorem pcref09_Ints {K : PureK} (hK : KOk X K) {lref09_Ints_0 : Sref09_Ints_0 → Option Oref09_Ints_0} (href09_Ints_0 : ∀ s o, lref09_Ints_0 s = some o → ∃ m, fuelRec (Rref09_Ints_0 K some) m s = some o) {a0n : Bool} {a0 : List AV} {b1n : Bool} {b1 : List AV} {v : AV} (h : Rref09_Ints K lref09_Ints_0 a0n a0 b1n b1 = some v) : PureCall X f_ref09_Ints [(.lst 1 a0n a0), (.lst 1 b1n b1)] v := by
  have hSo0 := soundX
  obtain ⟨_, _, hin0⟩ := loopIn_of (X := X) (f := 12) (i := 0) (key := 4) (by kernel_rfl)
  have hSo1 := sound_add hSo0 hin0 (okref09_Ints_0 hSo0 hK href09_Ints_0)
  exact tell_top (X := X) (Y := (addLp X 12 4 (Fref09_Ints_0 lref09_Ints_0))) rfl rfl hSo1 hK ((topref09_Ints K lref09_Ints_0 a0n a0 b1n b1).trans h)

/-! 16: escheat/uids.Of -/
inductive Suids_Of_0 where
  | s0 (t7n : Bool) (t7 : List AV) (t8 : Int) (t9 : Int)
  | s1 (t7n : Bool) (t7 : List AV) (t8 : Int) (t9 : Int) (obj0 : List AV)

inductive Ouids_Of_0 where
  | x0
  | x1 (obj0 : List AV)

def Ouids_Of_0.k {β : Type} (o : Ouids_Of_0) (c0 : Option β) (c1 : (List AV) → Option β) : Option β := match o with
  | .x0 => c0
  | .x1 obj0 => c1 obj0

def Euids_Of_0 : Suids_Of_0 → Env
  | .s0 t7n t7 t8 t9 => [.dead, .dead, .dead, (.lst 2 true []), .dead, .dead, .dead, (.lst 1 t7n t7), (.v (.int .i64 t8)), (.v (.int .i64 t9)), .dead, .dead, .dead, .dead, .dead, .dead, .dead, .dead, .dead, .dead, .dead, .dead, .dead, .dead, .dead, .dead, .dead, .dead, .dead, .dead, .dead, .dead, .dead, .dead, .dead, .dead, .dead, .dead, .dead, .dead, .dead]
  | .s1 t7n t7 t8 t9 obj0 => [.dead, .dead, .dead, (.own 0 1 0 none), .dead, .dead, .dead, (.lst 1 t7n t7), (.v (.int .i64 t8)), (.v (.int .i64 t9)), .dead, .dead, .dead, .dead, .dead, .dead, .dead, .dead, .dead, .dead, .dead, .dead, .dead, .dead, .dead, .dead, .dead, .dead, .dead, .dead, .dead, .dead, .dead, .dead, .dead, .dead, .dead, .dead, .dead, .dead, .dead]

def Huids_Of_0 : Suids_Of_0 → Heap
  | .s0 t7n t7 t8 t9 => []
  | .s1 t7n t7 t8 t9 obj0 => [⟨obj0, 1, 0, true, false, 25, 2, none⟩]

def Tuids_Of_0 {β : Type} (k : Ex → Env → Heap → Option β) (o : Ouids_Of_0) : Option β := Ouids_Of_0.k o (k (.exit 0) [.dead, .dead, .dead, (.lst 2 true []), .dead, .dead, .dead, .dead, .dead, .dead, .dead, .dead, .dead, .dead, .dead, .dead, .dead, .dead, .dead, .dead, .dead, .dead, .dead, .dead, .dead, .dead, .dead, .dead, .dead, .dead, .dead, .dead, .dead, .dead, .dead, .dead, .dead, .dead, .dead, .dead, .dead] []) (fun obj0 => k (.exit 0) [.dead, .dead, .dead, (.own 0 1 0 none), .dead, .dead, .dead, .dead, .dead, .dead, .dead, .dead, .dead, .dead, .dead, .dead, .dead, .dead, .dead, .dead, .dead, .dead, .dead, .dead, .dead, .dead, .dead, .dead, .dead, .dead, .dead, .dead, .dead, .dead, .dead, .dead, .dead, .dead, .dead, .dead, .dead] [⟨obj0, 1, 0, true, false, 25, 2, none⟩])

def Fuids_Of_0 (luids_Of_0 : Suids_Of_0 → Option Ouids_Of_0) : LoopF := ⟨fun e h k => match Nat.beq e.length 41 with
  | true => (match e.getD 3 .dead, e.getD 7 .dead, e.getD 8 .dead, e.getD 9 .dead, h with
    | (.lst 2 true []), (.lst 1 t7n t7), (.v (.int .i64 t8)), (.v (.int .i64 t9)), [] => optK (luids_Of_0 (.s0 t7n t7 t8 t9)) (Tuids_Of_0 k)
    | _, _, _, _, _ => none)
  | false => none⟩

def cluids_Of_0 : List Tmp := [0, 1, 2, 4, 5, 6, 10, 11, 12, 13, 14, 15, 16, 17, 18, 19, 20, 21, 22, 23, 24, 25, 26, 27, 28, 29, 30, 31, 32, 33, 34, 35, 36, 37, 38, 39, 40]
def clouids_Of_0 : List Tmp := [0, 1, 2, 4, 5, 6, 7, 8, 9, 10, 11, 12, 13, 14, 15, 16, 17, 18, 19, 20, 21, 22, 23, 24, 25, 26, 27, 28, 29, 30, 31, 32, 33, 34, 35, 36, 37, 38, 39, 40]

noncomputable def Ruids_Of_0 {β : Type} (K : PureK) (d : Ouids_Of_0 → Option β) (r : Suids_Of_0 → Option β) : Suids_Of_0 → Option β
  | .s0 t7n t7 t8 t9 =>
    br (decide (t9 < t8))
      (br (decide (0 ≤ t9))
        (br (decide (t9 < ((t7.length : Nat) : Int)))
          (optK t7[t9.toNat]? fun wv1 =>
          Ab.asInt wv1 .i64 fun wn2 =>
          r (.s1 t7n t7 t8 (w64 (t9 + 1)) [AV.agg [iv wn2, iv wn2]]))
          (none))
        (none))
      (d (.x0))
  | .s1 t7n t7 t8 t9 obj0 =>
    br (decide (t9 < t8))
      (br (decide (0 ≤ t9))
        (br (decide (t9 < ((t7.length : Nat) : Int)))
          (optK t7[t9.toNat]? fun wv3 =>
          Ab.asInt wv3 .i64 fun wn4 =>
          optK (br (decide (w64 (((obj0.length : Nat) : Int) - 1) ≥ 0))
              (br (decide (0 ≤ w64 (((obj0.length : Nat) : Int) - 1)))
                (br (decide (w64 (((obj0.length : Nat) : Int) - 1) < ((obj0.length : Nat) : Int)))
                  (optK (obj0[0 + (w64 (((obj0.length : Nat) : Int) - 1)).toNat]?) fun wv6 =>
                  Ab.asAgg wv6 2 fun wg7 =>
                  Ab.asInt (wg7 0) .i64 fun wn8 =>
                  Ab.asInt (wg7 1) .i64 fun wn9 =>
                  some (bv (w64 (wn9 + 1) == wn4)))
                  (none))
                (none))
              (some (bv false))) fun wv5 =>
          Ab.asBool wv5 fun wb10 =>
          br wb10
            (br (decide (0 ≤ w64 (((obj0.length : Nat) : Int) - 1)))
              (br (decide (w64 (((obj0.length : Nat) : Int) - 1) < ((obj0.length : Nat) : Int)))
                (optK (obj0[0 + (w64 (((obj0.length : Nat) : Int) - 1)).toNat]?) fun wv11 =>
                Ab.asAgg wv11 2 fun wg12 =>
                Ab.asInt (wg12 0) .i64 fun wn13 =>
                Ab.asInt (wg12 1) .i64 fun wn14 =>
                r (.s1 t7n t7 t8 (w64 (t9 + 1)) (obj0.set (0 + (w64 (((obj0.length : Nat) : Int) - 1)).toNat) (AV.agg [iv wn13, iv wn4]))))
                (none))
              (none))
            (br (lenOk (obj0.length + [AV.agg [iv wn4, iv wn4]].length) 16 && lenOk (obj0.length + [AV.agg [iv wn4, iv wn4]].length) 1)
              (r (.s1 t7n t7 t8 (w64 (t9 + 1)) (obj0 ++ [AV.agg [iv wn4, iv wn4]])))
              (none)))
          (none))
        (none))
      (d (.x1 obj0))
theorem rounduids_Of_0 (K : PureK) {β : Type} (r : Env → Heap → Option β) (k : Ex → Env → Heap → Option β) (s : Suids_Of_0) : tellOne X K 0 16 0 [(0, 1, 0), (1, 1, 0), (2, 1, 0)] 0 cluids_Of_0 clouids_Of_0 r k (Euids_Of_0 s) (Huids_Of_0 s) = Ruids_Of_0 K (Tuids_Of_0 k) (fun s => r (Euids_Of_0 s) (Huids_Of_0 s)) s := by
  cases s <;> kernel_rfl
theorem Ouids_Of_0.bind_k {β γ : Type} (o : Ouids_Of_0) (c0 : Option β) (c1 : (List AV) → Option β) (φ : β → Option γ) : (Ouids_Of_0.k o c0 c1).bind φ = Ouids_Of_0.k o (c0.bind φ) (fun obj0 => (c1 obj0).bind φ) := by cases o <;> rfl
theorem natuids_Of_0 (K : PureK) {β γ : Type} (φ : β → Option γ) (d : Ouids_Of_0 → Option β) (r : Suids_Of_0 → Option β) (s : Suids_Of_0) : Ruids_Of_0 K (fun o => (d o).bind φ) (fun s => (r s).bind φ) s = (Ruids_Of_0 K d r s).bind φ := by
  cases s <;> simp only [Ruids_Of_0, bind_optK, bind_br, bind_asInt, bind_asBool, bind_asStr, bind_asLst, bind_asAgg, bind_asTup, bind_asBig, bind_asErr, bind_none]
theorem outuids_Of_0 (o : Ouids_Of_0) : ∃ x e' h', ∀ {β : Type} (k : Ex → Env → Heap → Option β), Tuids_Of_0 k o = k x e' h' := by cases o <;> exact ⟨_, _, _, fun _ => rfl⟩
theorem okuids_Of_0 {K : PureK} (hX : Sound X) (hK : KOk X K) {luids_Of_0 : Suids_Of_0 → Option Ouids_Of_0} (hl : ∀ s o, luids_Of_0 s = some o → ∃ m, fuelRec (Ruids_Of_0 K some) m s = some o) (β : Type) (e : Env) (h : Heap) (k : Ex → Env → Heap → Option β) (r : β) (hr : (Fuids_Of_0 luids_Of_0).run e h k = some r) : ∃ x e' h', k x e' h' = some r ∧ CodeAt X (.loop (loopBody (X).P 16 0)) e h x e' h' := by
  obtain ⟨fn, c, hin⟩ := loopIn_of (X := X) (f := 16) (i := 0) (key := 3) (by kernel_rfl)
  simp only [Fuids_Of_0] at hr
  split at hr
  · rename_i hlen
    have hlen := Nat.eq_of_beq_eq_true hlen
    split at hr
    · rename_i q3 q7 q8 q9
      obtain ⟨o, ho, hr⟩ := optK_some hr
      refine tell_ok hX (KOk.congr (X := X) (Y := X) rfl rfl hK) hin (E := Euids_Of_0) (H := Huids_Of_0) (R := fun d r => Ruids_Of_0 K d r) (T := Tuids_Of_0) (ts := [(0, 1, 0), (1, 1, 0), (2, 1, 0)]) (len := 0) (cl := cluids_Of_0) (clo := clouids_Of_0) (rounduids_Of_0 K) (natuids_Of_0 K) outuids_Of_0 (hl _ _ ho) (cl0 := cluids_Of_0) (ts0 := []) ?_ rfl (by kernel_rfl) (by kernel_rfl) hr
      rw [clear_lit e 41 hlen, show clearEnv cluids_Of_0 ((List.range 41).map fun i => e.getD i .dead) = [.dead, .dead, .dead, e.getD 3 .dead, .dead, .dead, .dead, e.getD 7 .dead, e.getD 8 .dead, e.getD 9 .dead, .dead, .dead, .dead, .dead, .dead, .dead, .dead, .dead, .dead, .dead, .dead, .dead, .dead, .dead, .dead, .dead, .dead, .dead, .dead, .dead, .dead, .dead, .dead, .dead, .dead, .dead, .dead, .dead, .dead, .dead, .dead] from by kernel_rfl]; rw [q3, q7, q8, q9]
      kernel_rfl
    · cases hr
  · cases hr
noncomputable def Ruids_Of (K : PureK) (luids_Of_0 : Suids_Of_0 → Option Ouids_Of_0) (nums0n : Bool) (nums0 : List AV) : Option AV :=
  optK (luids_Of_0 (Suids_Of_0.s0 nums0n nums0 (((nums0.length : Nat) : Int)) 0)) fun wo1 => Ouids_Of_0.k wo1
      (some (AV.lst 2 true []))
      (fun (obj0_3 : List AV) => some (AV.lst 2 false obj0_3))
theorem topuids_Of (K : PureK) (luids_Of_0 : Suids_Of_0 → Option Ouids_Of_0) (nums0n : Bool) (nums0 : List AV) : topK (addLp X 16 3 (Fuids_Of_0 luids_Of_0)) K 0 f_uids_Of [(.lst 1 nums0n nums0)] = Ruids_Of K luids_Of_0 nums0n nums0 := by kernel_rfl
theorem pcuids_Of {K : PureK} (hK : KOk X K) {luids_Of_0 : Suids_Of_0 → Option Ouids_Of_0} (huids_Of_0 : ∀ s o, luids_Of_0 s = some o → ∃ m, fuelRec (Ruids_Of_0 K some) m s = some o) {nums0n : Bool} {nums0 : List AV} {v : AV} (h : Ruids_Of K luids_Of_0 nums0n nums0 = some v) : PureCall X f_uids_Of [(.lst 1 nums0n nums0)] v := by
  have hSo0 := soundX
  obtain ⟨_, _, hin0⟩ := loopIn_of (X := X) (f := 16) (i := 0) (key := 3) (by kernel_rfl)
  have hSo1 := sound_add hSo0 hin0 (okuids_Of_0 hSo0 hK huids_Of_0)
  exact tell_top (X := X) (Y := (addLp X 16 3 (Fuids_Of_0 luids_Of_0))) rfl rfl hSo1 hK ((topuids_Of K luids_Of_0 nums0n nums0).trans h)

/-! 17: escheat/escheatref09.Of -/
inductive Sref09_Of_0 where
  | s0 (nums0n : Bool) (nums0 : List AV) (i4 : Int)
  | s1 (nums0n : Bool) (nums0 : List AV) (i4 : Int) (obj0 : List AV)

inductive Oref09_Of_0 where
  | x0
  | x1 (obj0 : List AV)

def Oref09_Of_0.k {β : Type} (o : Oref09_Of_0) (c0 : Option β) (c1 : (List AV) → Option β) : Option β := match o with
  | .x0 => c0
  | .x1 obj0 => c1 obj0

def Eref09_Of_0 : Sref09_Of_0 → Env
  | .s0 nums0n nums0 i4 => [(.lst 1 nums0n nums0), .dead, .dead, (.lst 2 true []), (.v (.int .i64 i4)), .dead, .dead, .dead, .dead, .dead, .dead, .dead, .dead, .dead, .dead, .dead, .dead, .dead, .dead, .dead, .dead, .dead, .dead, .dead, .dead, .dead, .dead, .dead, .dead, .dead, .dead, .dead, .dead, .dead, .dead, .dead, .dead, .dead, .dead, .dead, .dead, .dead, .dead, .dead, .dead, .dead, .dead, .dead, .dead, .dead, .dead, .dead]
  | .s1 nums0n nums0 i4 obj0 => [(.lst 1 nums0n nums0), .dead, .dead, (.own 0 1 0 none), (.v (.int .i64 i4)), .dead, .dead, .dead, .dead, .dead, .dead, .dead, .dead, .dead, .dead, .dead, .dead, .dead, .dead, .dead, .dead, .dead, .dead, .dead, .dead, .dead, .dead, .dead, .dead, .dead, .dead, .dead, .dead, .dead, .dead, .dead, .dead, .dead, .dead, .dead, .dead, .dead, .dead, .dead, .dead, .dead, .dead, .dead, .dead, .dead, .dead, .dead]

def Href09_Of_0 : Sref09_Of_0 → Heap
  | .s0 nums0n nums0 i4 => []
  | .s1 nums0n nums0 i4 obj0 => [⟨obj0, 1, 0, true, false, 25, 2, none⟩]

def Tref09_Of_0 {β : Type} (k : Ex → Env → Heap → Option β) (o : Oref09_Of_0) : Option β := Oref09_Of_0.k o (k (.exit 0) [.dead, .dead, .dead, (.lst 2 true []), .dead, .dead, .dead, .dead, .dead, .dead, .dead, .dead, .dead, .dead, .dead, .dead, .dead, .dead, .dead, .dead, .dead, .dead, .dead, .dead, .dead, .dead, .dead, .dead, .dead, .dead, .dead, .dead, .dead, .dead, .dead, .dead, .dead, .dead, .dead, .dead, .dead, .dead, .dead, .dead, .dead, .dead, .dead, .dead, .dead, .dead, .dead, .dead] []) (fun obj0 => k (.exit 0) [.dead, .dead, .dead, (.own 0 1 0 none), .dead, .dead, .dead, .dead, .dead, .dead, .dead, .dead, .dead, .dead, .dead, .dead, .dead, .dead, .dead, .dead, .dead, .dead, .dead, .dead, .dead, .dead, .dead, .dead, .dead, .dead, .dead, .dead, .dead, .dead, .dead, .dead, .dead, .dead, .dead, .dead, .dead, .dead, .dead, .dead, .dead, .dead, .dead, .dead, .dead, .dead, .dead, .dead] [⟨obj0, 1, 0, true, false, 25, 2, none⟩])

def Fref09_Of_0 (lref09_Of_0 : Sref09_Of_0 → Option Oref09_Of_0) : LoopF := ⟨fun e h k => match Nat.beq e.length 52 with
  | true => (match e.getD 0 .dead, e.getD 3 .dead, e.getD 4 .dead, h with
    | (.lst 1 nums0n nums0), (.lst 2 true []), (.v (.int .i64 i4)), [] => optK (lref09_Of_0 (.s0 nums0n nums0 i4)) (Tref09_Of_0 k)
    | _, _, _, _ => none)
  | false => none⟩

def clref09_Of_0 : List Tmp := [1, 2, 5, 6, 7, 8, 9, 10, 11, 12, 13, 14, 15, 16, 17, 18, 19, 20, 21, 22, 23, 24, 25, 26, 27, 28, 29, 30, 31, 32, 33, 34, 35, 36, 37, 38, 39, 40, 41, 42, 43, 44, 45, 46, 47, 48, 49, 50, 51]
def cloref09_Of_0 : List Tmp := [0, 1, 2, 4, 5, 6, 7, 8, 9, 10, 11, 12, 13, 14, 15, 16, 17, 18, 19, 20, 21, 22, 23, 24, 25, 26, 27, 28, 29, 30, 31, 32, 33, 34, 35, 36, 37, 38, 39, 40, 41, 42, 43, 44, 45, 46, 47, 48, 49, 50, 51]

noncomputable def Rref09_Of_0 {β : Type} (K : PureK) (d : Oref09_Of_0 → Option β) (r : Sref09_Of_0 → Option β) : Sref09_Of_0 → Option β
  | .s0 nums0n nums0 i4 =>
    br (decide (i4 < ((nums0.length : Nat) : Int)))
      (br (decide (0 ≤ i4))
        (br (decide (i4 < ((nums0.length : Nat) : Int)))
          (optK nums0[i4.toNat]? fun wv1 =>
          Ab.asInt wv1 .i64 fun wn2 =>
          br (decide (0 ≤ i4))
            (br (decide (i4 < ((nums0.length : Nat) : Int)))
              (optK nums0[i4.toNat]? fun wv3 =>
              Ab.asInt wv3 .i64 fun wn4 =>
              r (.s1 nums0n nums0 (w64 (i4 + 1)) [AV.agg [iv wn2, iv wn4]]))
              (none))
            (none))
          (none))
        (none))
      (d (.x0))
  | .s1 nums0n nums0 i4 obj0 =>
    br (decide (i4 < ((nums0.length : Nat) : Int)))
      (optK (br (decide (((obj0.length : Nat) : Int) > 0))
          (br (decide (0 ≤ w64 (((obj0.length : Nat) : Int) - 1)))
            (br (decide (w64 (((obj0.length : Nat) : Int) - 1) < ((obj0.length : Nat) : Int)))
              (optK (obj0[0 + (w64 (((obj0.length : Nat) : Int) - 1)).toNat]?) fun wv6 =>
              Ab.asAgg wv6 2 fun wg7 =>
              Ab.asInt (wg7 0) .i64 fun wn8 =>
              Ab.asInt (wg7 1) .i64 fun wn9 =>
              br (decide (0 ≤ i4))
                (br (decide (i4 < ((nums0.length : Nat) : Int)))
                  (optK nums0[i4.toNat]? fun wv10 =>
                  Ab.asInt wv10 .i64 fun wn11 =>
                  some (bv (wn9 == w64 (wn11 - 1))))
                  (none))
                (none))
              (none))
            (none))
          (some (bv false))) fun wv5 =>
      Ab.asBool wv5 fun wb12 =>
      br wb12
        (br (decide (0 ≤ i4))
          (br (decide (i4 < ((nums0.length : Nat) : Int)))
            (optK nums0[i4.toNat]? fun wv13 =>
            Ab.asInt wv13 .i64 fun wn14 =>
            br (decide (0 ≤ w64 (((obj0.length : Nat) : Int) - 1)))
              (br (decide (w64 (((obj0.length : Nat) : Int) - 1) < ((obj0.length : Nat) : Int)))
                (optK (obj0[0 + (w64 (((obj0.length : Nat) : Int) - 1)).toNat]?) fun wv15 =>
                Ab.asAgg wv15 2 fun wg16 =>
                Ab.asInt (wg16 0) .i64 fun wn17 =>
                Ab.asInt (wg16 1) .i64 fun wn18 =>
                r (.s1 nums0n nums0 (w64 (i4 + 1)) (obj0.set (0 + (w64 (((obj0.length : Nat) : Int) - 1)).toNat) (AV.agg [iv wn17, iv wn14]))))
                (none))
              (none))
            (none))
          (none))
        (br (decide (0 ≤ i4))
          (br (decide (i4 < ((nums0.length : Nat) : Int)))
            (optK nums0[i4.toNat]? fun wv19 =>
            Ab.asInt wv19 .i64 fun wn20 =>
            br (decide (0 ≤ i4))
              (br (decide (i4 < ((nums0.length : Nat) : Int)))
                (optK nums0[i4.toNat]? fun wv21 =>
                Ab.asInt wv21 .i64 fun wn22 =>
                br (lenOk (obj0.length + [AV.agg [iv wn20, iv wn22]].length) 16 && lenOk (obj0.length + [AV.agg [iv wn20, iv wn22]].length) 1)
                  (r (.s1 nums0n nums0 (w64 (i4 + 1)) (obj0 ++ [AV.agg [iv wn20, iv wn22]])))
                  (none))
                (none))
              (none))
            (none))
          (none)))
      (d (.x1 obj0))
theorem roundref09_Of_0 (K : PureK) {β : Type} (r : Env → Heap → Option β) (k : Ex → Env → Heap → Option β) (s : Sref09_Of_0) : tellOne X K 0 17 0 [(0, 1, 0), (1, 1, 0), (2, 1, 0)] 0 clref09_Of_0 cloref09_Of_0 r k (Eref09_Of_0 s) (Href09_Of_0 s) = Rref09_Of_0 K (Tref09_Of_0 k) (fun s => r (Eref09_Of_0 s) (Href09_Of_0 s)) s := by
  cases s <;> kernel_rfl
theorem Oref09_Of_0.bind_k {β γ : Type} (o : Oref09_Of_0) (c0 : Option β) (c1 : (List AV) → Option β) (φ : β → Option γ) : (Oref09_Of_0.k o c0 c1).bind φ = Oref09_Of_0.k o (c0.bind φ) (fun obj0 => (c1 obj0).bind φ) := by cases o <;> rfl
theorem natref09_Of_0 (K : PureK) {β γ : Type} (φ : β → Option γ) (d : Oref09_Of_0 → Option β) (r : Sref09_Of_0 → Option β) (s : Sref09_Of_0) : Rref09_Of_0 K (fun o => (d o).bind φ) (fun s => (r s).bind φ) s = (Rref09_Of_0 K d r s).bind φ := by
  cases s <;> simp only [Rref09_Of_0, bind_optK, bind_br, bind_asInt, bind_asBool, bind_asStr, bind_asLst, bind_asAgg, bind_asTup, bind_asBig, bind_asErr, bind_none]
theorem outref09_Of_0 (o : Oref09_Of_0) : ∃ x e' h', ∀ {β : Type} (k : Ex → Env → Heap → Option β), Tref09_Of_0 k o = k x e' h' := by cases o <;> exact ⟨_, _, _, fun _ => rfl⟩
theorem okref09_Of_0 {K : PureK} (hX : Sound X) (hK : KOk X K) {lref09_Of_0 : Sref09_Of_0 → Option Oref09_Of_0} (hl : ∀ s o, lref09_Of_0 s = some o → ∃ m, fuelRec (Rref09_Of_0 K some) m s = some o) (β : Type) (e : Env) (h : Heap) (k : Ex → Env → Heap → Option β) (r : β) (hr : (Fref09_Of_0 lref09_Of_0).run e h k = some r) : ∃ x e' h', k x e' h' = some r ∧ CodeAt X (.loop (loopBody (X).P 17 0)) e h x e' h' := by
  obtain ⟨fn, c, hin⟩ := loopIn_of (X := X) (f := 17) (i := 0) (key := 3) (by kernel_rfl)
  simp only [Fref09_Of_0] at hr
  split at hr
  · rename_i hlen
    have hlen := Nat.eq_of_beq_eq_true hlen
    split at hr
    · rename_i q0 q3 q4
      obtain ⟨o, ho, hr⟩ := optK_some hr
      refine tell_ok hX (KOk.congr (X := X) (Y := X) rfl rfl hK) hin (E := Eref09_Of_0) (H := Href09_Of_0) (R := fun d r => Rref09_Of_0 K d r) (T := Tref09_Of_0) (ts := [(0, 1, 0), (1, 1, 0), (2, 1, 0)]) (len := 0) (cl := clref09_Of_0) (clo := cloref09_Of_0) (roundref09_Of_0 K) (natref09_Of_0 K) outref09_Of_0 (hl _ _ ho) (cl0 := clref09_Of_0) (ts0 := []) ?_ rfl (by kernel_rfl) (by kernel_rfl) hr
      rw [clear_lit e 52 hlen, show clearEnv clref09_Of_0 ((List.range 52).map fun i => e.getD i .dead) = [e.getD 0 .dead, .dead, .dead, e.getD 3 .dead, e.getD 4 .dead, .dead, .dead, .dead, .dead, .dead, .dead, .dead, .dead, .dead, .dead, .dead, .dead, .dead, .dead, .dead, .dead, .dead, .dead, .dead, .dead, .dead, .dead, .dead, .dead, .dead, .dead, .dead, .dead, .dead, .dead, .dead, .dead, .dead, .dead, .dead, .dead, .dead, .dead, .dead, .dead, .dead, .dead, .dead, .dead, .dead, .dead, .dead] from by kernel_rfl]; rw [q0, q3, q4]
      kernel_rfl
    · cases hr
  · cases hr
noncomputable def Rref09_Of (K : PureK) (lref09_Of_0 : Sref09_Of_0 → Option Oref09_Of_0) (nums0n : Bool) (nums0 : List AV) : Option AV :=
  optK (lref09_Of_0 (Sref09_Of_0.s0 nums0n nums0 0)) fun wo1 => Oref09_Of_0.k wo1
      (some (AV.lst 2 true []))
      (fun (obj0_3 : List AV) => some (AV.lst 2 false obj0_3))
theorem topref09_Of (K : PureK) (lref09_Of_0 : Sref09_Of_0 → Option Oref09_Of_0) (nums0n : Bool) (nums0 : List AV) : topK (addLp X 17 3 (Fref09_Of_0 lref09_Of_0)) K 0 f_ref09_Of [(.lst 1 nums0n nums0)] = Rref09_Of K lref09_Of_0 nums0n nums0 := by kernel_rfl
theorem pcref09_Of {K : PureK} (hK : KOk X K) {lref09_Of_0 : Sref09_Of_0 → Option Oref09_Of_0} (href09_Of_0 : ∀ s o, lref09_Of_0 s = some o → ∃ m, fuelRec (Rref09_Of_0 K some) m s = some o) {nums0n : Bool} {nums0 : List AV} {v : AV} (h : Rref09_Of K lref09_Of_0 nums0n nums0 = some v) : PureCall X f_ref09_Of [(.lst 1 nums0n nums0)] v := by
  have hSo0 := soundX
  obtain ⟨_, _, hin0⟩ := loopIn_of (X := X) (f := 17) (i := 0) (key := 3) (by kernel_rfl)
  have hSo1 := sound_add hSo0 hin0 (okref09_Of_0 hSo0 hK href09_Of_0)
  exact tell_top (X := X) (Y := (addLp X 17 3 (Fref09_Of_0 lref09_Of_0))) rfl rfl hSo1 hK ((topref09_Of K lref09_Of_0 nums0n nums0).trans h)

/-! 10: escheat/escheatref09.Has -/
inductive Sref09_Has_0 where
  | s0 (l0n : Bool) (l0 : List AV) (n1 : Int) (last2 : Int) (i7 : Int)

inductive Oref09_Has_0 where
  | x0 (t6 : Bool)
  | x1

def Oref09_Has_0.k {β : Type} (o : Oref09_Has_0) (c0 : Bool → Option β) (c1 : Option β) : Option β := match o with
  | .x0 t6 => c0 t6
  | .x1 => c1

def Eref09_Has_0 : Sref09_Has_0 → Env
  | .s0 l0n l0 n1 last2 i7 => [(.lst 2 l0n l0), (.v (.int .i64 n1)), (.v (.int .i64 last2)), .dead, .dead, .dead, .dead, (.v (.int .i64 i7)), .dead, .dead, .dead, .dead, .dead, .dead, .dead, .dead, .dead, .dead, .dead, .dead, .dead, .dead, .dead, .dead, .dead, .dead, .dead, .dead, .dead, .dead, .dead, .dead, .dead, .dead, .dead, .dead, .dead, .dead, .dead, .dead, .dead, .dead, .dead, .dead, .dead, .dead, .dead, .dead]

def Href09_Has_0 : Sref09_Has_0 → Heap
  | .s0 l0n l0 n1 last2 i7 => []

def Tref09_Has_0 {β : Type} (k : Ex → Env → Heap → Option β) (o : Oref09_Has_0) : Option β := Oref09_Has_0.k o (fun t6 => k .ret [.dead, .dead, .dead, .dead, .dead, .dead, (.v (.bool t6)), .dead, .dead, .dead, .dead, .dead, .dead, .dead, .dead, .dead, .dead, .dead, .dead, .dead, .dead, .dead, .dead, .dead, .dead, .dead, .dead, .dead, .dead, .dead, .dead, .dead, .dead, .dead, .dead, .dead, .dead, .dead, .dead, .dead, .dead, .dead, .dead, .dead, .dead, .dead, .dead, .dead] []) (k (.exit 0) [.dead, .dead, .dead, .dead, .dead, .dead, .dead, .dead, .dead, .dead, .dead, .dead, .dead, .dead, .dead, .dead, .dead, .dead, .dead, .dead, .dead, .dead, .dead, .dead, .dead, .dead, .dead, .dead, .dead, .dead, .dead, .dead, .dead, .dead, .dead, .dead, .dead, .dead, .dead, .dead, .dead, .dead, .dead, .dead, .dead, .dead, .dead, .dead] [])

def Fref09_Has_0 (lref09_Has_0 : Sref09_Has_0 → Option Oref09_Has_0) : LoopF := ⟨fun e h k => match Nat.beq e.length 48 with
  | true => (match e.getD 0 .dead, e.getD 1 .dead, e.getD 2 .dead, e.getD 7 .dead, h with
    | (.lst 2 l0n l0), (.v (.int .i64 n1)), (.v (.int .i64 last2)), (.v (.int .i64 i7)), [] => optK (lref09_Has_0 (.s0 l0n l0 n1 last2 i7)) (Tref09_Has_0 k)
    | _, _, _, _, _ => none)
  | false => none⟩

def clref09_Has_0 : List Tmp := [3, 4, 5, 6, 8, 9, 10, 11, 12, 13, 14, 15, 16, 17, 18, 19, 20, 21, 22, 23, 24, 25, 26, 27, 28, 29, 30, 31, 32, 33, 34, 35, 36, 37, 38, 39, 40, 41, 42, 43, 44, 45, 46, 47]
def cloref09_Has_0 : List Tmp := [0, 1, 2, 3, 4, 5, 7, 8, 9, 10, 11, 12, 13, 14, 15, 16, 17, 18, 19, 20, 21, 22, 23, 24, 25, 26, 27, 28, 29, 30, 31, 32, 33, 34, 35, 36, 37, 38, 39, 40, 41, 42, 43, 44, 45, 46, 47]

noncomputable def Rref09_Has_0 {β : Type} (K : PureK) (d : Oref09_Has_0 → Option β) (r : Sref09_Has_0 → Option β) : Sref09_Has_0 → Option β
  | .s0 l0n l0 n1 last2 i7 =>
    optK (br (decide (i7 < ((l0.length : Nat) : Int)))
        (some (bv (decide (n1 ≥ 1))))
        (some (bv false))) fun wv1 =>
    Ab.asBool wv1 fun wb2 =>
    br wb2
      (br (decide (0 ≤ i7))
        (br (decide (i7 < ((l0.length : Nat) : Int)))
          (optK l0[i7.toNat]? fun wv3 =>
          Ab.asAgg wv3 2 fun wg4 =>
          Ab.asInt (wg4 0) .i64 fun wn5 =>
          Ab.asInt (wg4 1) .i64 fun wn6 =>
          br (decide (0 ≤ i7))
            (br (decide (i7 < ((l0.length : Nat) : Int)))
              (optK l0[i7.toNat]? fun wv7 =>
              Ab.asAgg wv7 2 fun wg8 =>
              Ab.asInt (wg8 0) .i64 fun wn9 =>
              Ab.asInt (wg8 1) .i64 fun wn10 =>
              br (wn5 == 0)
                (br (wn10 == 0)
                  (optK (br (decide (n1 ≥ if last2 < last2 then last2 else last2))
                      (some (bv (decide (n1 ≤ if last2 < last2 then last2 else last2))))
                      (some (bv false))) fun wv11 =>
                  Ab.asBool wv11 fun wb12 =>
                  br wb12
                    (d (.x0 true))
                    (r (.s0 l0n l0 n1 last2 (w64 (i7 + 1)))))
                  (optK (br (decide (n1 ≥ if wn10 < last2 then wn10 else last2))
                      (some (bv (decide (n1 ≤ if last2 < wn10 then wn10 else last2))))
                      (some (bv false))) fun wv13 =>
                  Ab.asBool wv13 fun wb14 =>
                  br wb14
                    (d (.x0 true))
                    (r (.s0 l0n l0 n1 last2 (w64 (i7 + 1))))))
                (br (wn10 == 0)
                  (optK (br (decide (n1 ≥ if last2 < wn5 then last2 else wn5))
                      (some (bv (decide (n1 ≤ if wn5 < last2 then last2 else wn5))))
                      (some (bv false))) fun wv15 =>
                  Ab.asBool wv15 fun wb16 =>
                  br wb16
                    (d (.x0 true))
                    (r (.s0 l0n l0 n1 last2 (w64 (i7 + 1)))))
                  (optK (br (decide (n1 ≥ if wn10 < wn5 then wn10 else wn5))
                      (some (bv (decide (n1 ≤ if wn5 < wn10 then wn10 else wn5))))
                      (some (bv false))) fun wv17 =>
                  Ab.asBool wv17 fun wb18 =>
                  br wb18
                    (d (.x0 true))
                    (r (.s0 l0n l0 n1 last2 (w64 (i7 + 1)))))))
              (none))
            (none))
          (none))
        (none))
      (d (.x1))
theorem roundref09_Has_0 (K : PureK) {β : Type} (r : Env → Heap → Option β) (k : Ex → Env → Heap → Option β) (s : Sref09_Has_0) : tellOne X K 0 10 0 [(0, 1, 0), (1, 1, 0), (2, 1, 0)] 0 clref09_Has_0 cloref09_Has_0 r k (Eref09_Has_0 s) (Href09_Has_0 s) = Rref09_Has_0 K (Tref09_Has_0 k) (fun s => r (Eref09_Has_0 s) (Href09_Has_0 s)) s := by
  cases s <;> kernel_rfl
theorem Oref09_Has_0.bind_k {β γ : Type} (o : Oref09_Has_0) (c0 : Bool → Option β) (c1 : Option β) (φ : β → Option γ) : (Oref09_Has_0.k o c0 c1).bind φ = Oref09_Has_0.k o (fun t6 => (c0 t6).bind φ) (c1.bind φ) := by cases o <;> rfl
theorem natref09_Has_0 (K : PureK) {β γ : Type} (φ : β → Option γ) (d : Oref09_Has_0 → Option β) (r : Sref09_Has_0 → Option β) (s : Sref09_Has_0) : Rref09_Has_0 K (fun o => (d o).bind φ) (fun s => (r s).bind φ) s = (Rref09_Has_0 K d r s).bind φ := by
  cases s <;> simp only [Rref09_Has_0, bind_optK, bind_br, bind_asInt, bind_asBool, bind_asStr, bind_asLst, bind_asAgg, bind_asTup, bind_asBig, bind_asErr, bind_none]
theorem outref09_Has_0 (o : Oref09_Has_0) : ∃ x e' h', ∀ {β : Type} (k : Ex → Env → Heap → Option β), Tref09_Has_0 k o = k x e' h' := by cases o <;> exact ⟨_, _, _, fun _ => rfl⟩
theorem okref09_Has_0 {K : PureK} (hX : Sound X) (hK : KOk X K) {lref09_Has_0 : Sref09_Has_0 → Option Oref09_Has_0} (hl : ∀ s o, lref09_Has_0 s = some o → ∃ m, fuelRec (Rref09_Has_0 K some) m s = some o) (β : Type) (e : Env) (h : Heap) (k : Ex → Env → Heap → Option β) (r : β) (hr : (Fref09_Has_0 lref09_Has_0).run e h k = some r) : ∃ x e' h', k x e' h' = some r ∧ CodeAt X (.loop (loopBody (X).P 10 0)) e h x e' h' := by
  obtain ⟨fn, c, hin⟩ := loopIn_of (X := X) (f := 10) (i := 0) (key := 2) (by kernel_rfl)
  simp only [Fref09_Has_0] at hr
  split at hr
  · rename_i hlen
    have hlen := Nat.eq_of_beq_eq_true hlen
    split at hr
    · rename_i q0 q1 q2 q7
      obtain ⟨o, ho, hr⟩ := optK_some hr
      refine tell_ok hX (KOk.congr (X := X) (Y := X) rfl rfl hK) hin (E := Eref09_Has_0) (H := Href09_Has_0) (R := fun d r => Rref09_Has_0 K d r) (T := Tref09_Has_0) (ts := [(0, 1, 0), (1, 1, 0), (2, 1, 0)]) (len := 0) (cl := clref09_Has_0) (clo := cloref09_Has_0) (roundref09_Has_0 K) (natref09_Has_0 K) outref09_Has_0 (hl _ _ ho) (cl0 := clref09_Has_0) (ts0 := []) ?_ rfl (by kernel_rfl) (by kernel_rfl) hr
      rw [clear_lit e 48 hlen, show clearEnv clref09_Has_0 ((List.range 48).map fun i => e.getD i .dead) = [e.getD 0 .dead, e.getD 1 .dead, e.getD 2 .dead, .dead, .dead, .dead, .dead, e.getD 7 .dead, .dead, .dead, .dead, .dead, .dead, .dead, .dead, .dead, .dead, .dead, .dead, .dead, .dead, .dead, .dead, .dead, .dead, .dead, .dead, .dead, .dead, .dead, .dead, .dead, .dead, .dead, .dead, .dead, .dead, .dead, .dead, .dead, .dead, .dead, .dead, .dead, .dead, .dead, .dead, .dead] from by kernel_rfl]; rw [q0, q1, q2, q7]
      kernel_rfl
    · cases hr
  · cases hr
noncomputable def Rref09_Has (K : PureK) (lref09_Has_0 : Sref09_Has_0 → Option Oref09_Has_0) (l0n : Bool) (l0 : List AV) (n1 : Int) (last2 : Int) : Option AV :=
  optK (lref09_Has_0 (Sref09_Has_0.s0 l0n l0 n1 last2 0)) fun wo1 => Oref09_Has_0.k wo1
      (fun (t6_2 : Bool) => some (bv t6_2))
      (some (bv false))
theorem topref09_Has (K : PureK) (lref09_Has_0 : Sref09_Has_0 → Option Oref09_Has_0) (l0n : Bool) (l0 : List AV) (n1 : Int) (last2 : Int) : topK (addLp X 10 2 (Fref09_Has_0 lref09_Has_0)) K 0 f_ref09_Has [(.lst 2 l0n l0), (.v (.int .i64 n1)), (.v (.int .i64 last2))] = Rref09_Has K lref09_Has_0 l0n l0 n1 last2 := by kernel_rfl
theorem pcref09_Has {K : PureK} (hK : KOk X K) {lref09_Has_0 : Sref09_Has_0 → Option Oref09_Has_0} (href09_Has_0 : ∀ s o, lref09_Has_0 s = some o → ∃ m, fuelRec (Rref09_Has_0 K some) m s = some o) {l0n : Bool} {l0 : List AV} {n1 : Int} {last2 : Int} {v : AV} (h : Rref09_Has K lref09_Has_0 l0n l0 n1 last2 = some v) : PureCall X f_ref09_Has [(.lst 2 l0n l0), (.v (.int .i64 n1)), (.v (.int .i64 last2))] v := by
  have hSo0 := soundX
  obtain ⟨_, _, hin0⟩ := loopIn_of (X := X) (f := 10) (i := 0) (key := 2) (by kernel_rfl)
  have hSo1 := sound_add hSo0 hin0 (okref09_Has_0 hSo0 hK href09_Has_0)
  exact tell_top (X := X) (Y := (addLp X 10 2 (Fref09_Has_0 lref09_Has_0))) rfl rfl hSo1 hK ((topref09_Has K lref09_Has_0 l0n l0 n1 last2).trans h)

/-! 14: escheat/escheatref09.Pick -/
inductive Sref09_Pick_0 where
  | s0 (l0n : Bool) (l0 : List AV) (nums1n : Bool) (nums1 : List AV) (i6 : Int)
  | s1 (l0n : Bool) (l0 : List AV) (nums1n : Bool) (nums1 : List AV) (i6 : Int) (obj0 : List AV)

inductive Oref09_Pick_0 where
  | x0
  | x1 (obj0 : List AV)

def Oref09_Pick_0.k {β : Type} (o : Oref09_Pick_0) (c0 : Option β) (c1 : (List AV) → Option β) : Option β := match o with
  | .x0 => c0
  | .x1 obj0 => c1 obj0

def Eref09_Pick_0 : Sref09_Pick_0 → Env
  | .s0 l0n l0 nums1n nums1 i6 => [(.lst 2 l0n l0), (.lst 1 nums1n nums1), .dead, .dead, .dead, (.lst 1 true []), (.v (.int .i64 i6)), .dead, .dead, .dead, .dead, .dead, .dead, .dead, .dead, .dead, .dead, .dead, .dead, .dead, .dead, .dead, .dead, .dead, .dead, .dead, .dead, .dead, .dead, .dead, .dead, .dead, .dead]
  | .s1 l0n l0 nums1n nums1 i6 obj0 => [(.lst 2 l0n l0), (.lst 1 nums1n nums1), .dead, .dead, .dead, (.own 0 1 0 none), (.v (.int .i64 i6)), .dead, .dead, .dead, .dead, .dead, .dead, .dead, .dead, .dead, .dead, .dead, .dead, .dead, .dead, .dead, .dead, .dead, .dead, .dead, .dead, .dead, .dead, .dead, .dead, .dead, .dead]

def Href09_Pick_0 : Sref09_Pick_0 → Heap
  | .s0 l0n l0 nums1n nums1 i6 => []
  | .s1 l0n l0 nums1n nums1 i6 obj0 => [⟨obj0, 1, 0, true, false, 3, 1, none⟩]

def Tref09_Pick_0 {β : Type} (k : Ex → Env → Heap → Option β) (o : Oref09_Pick_0) : Option β := Oref09_Pick_0.k o (k (.exit 0) [.dead, .dead, .dead, .dead, .dead, (.lst 1 true []), .dead, .dead, .dead, .dead, .dead, .dead, .dead, .dead, .dead, .dead, .dead, .dead, .dead, .dead, .dead, .dead, .dead, .dead, .dead, .dead, .dead, .dead, .dead, .dead, .dead, .dead, .dead] []) (fun obj0 => k (.exit 0) [.dead, .dead, .dead, .dead, .dead, (.own 0 1 0 none), .dead, .dead, .dead, .dead, .dead, .dead, .dead, .dead, .dead, .dead, .dead, .dead, .dead, .dead, .dead, .dead, .dead, .dead, .dead, .dead, .dead, .dead, .dead, .dead, .dead, .dead, .dead] [⟨obj0, 1, 0, true, false, 3, 1, none⟩])

def Fref09_Pick_0 (lref09_Pick_0 : Sref09_Pick_0 → Option Oref09_Pick_0) : LoopF := ⟨fun e h k => match Nat.beq e.length 33 with
  | true => (match e.getD 0 .dead, e.getD 1 .dead, e.getD 5 .dead, e.getD 6 .dead, h with
    | (.lst 2 l0n l0), (.lst 1 nums1n nums1), (.lst 1 true []), (.v (.int .i64 i6)), [] => optK (lref09_Pick_0 (.s0 l0n l0 nums1n nums1 i6)) (Tref09_Pick_0 k)
    | _, _, _, _, _ => none)
  | false => none⟩

def clref09_Pick_0 : List Tmp := [2, 3, 4, 7, 8, 9, 10, 11, 12, 13, 14, 15, 16, 17, 18, 19, 20, 21, 22, 23, 24, 25, 26, 27, 28, 29, 30, 31, 32]
def cloref09_Pick_0 : List Tmp := [0, 1, 2, 3, 4, 6, 7, 8, 9, 10, 11, 12, 13, 14, 15, 16, 17, 18, 19, 20, 21, 22, 23, 24, 25, 26, 27, 28, 29, 30, 31, 32]

noncomputable def Rref09_Pick_0 {β : Type} (K : PureK) (d : Oref09_Pick_0 → Option β) (r : Sref09_Pick_0 → Option β) : Sref09_Pick_0 → Option β
  | .s0 l0n l0 nums1n nums1 i6 =>
    br (decide (i6 < ((nums1.length : Nat) : Int)))
      (br (decide (0 ≤ i6))
        (br (decide (i6 < ((nums1.length : Nat) : Int)))
          (optK nums1[i6.toNat]? fun wv1 =>
          Ab.asInt wv1 .i64 fun wn2 =>
          br (decide (0 ≤ w64 (((nums1.length : Nat) : Int) - 1)))
            (br (decide (w64 (((nums1.length : Nat) : Int) - 1) < ((nums1.length : Nat) : Int)))
              (optK (nums1[(w64 (((nums1.length : Nat) : Int) - 1)).toNat]?) fun wv3 =>
              Ab.asInt wv3 .i64 fun wn4 =>
              optK (K f_ref09_Has [AV.lst 2 l0n l0, iv wn2, iv wn4]) fun wv5 =>
              Ab.asBool wv5 fun wb6 =>
              br wb6
                (br (decide (0 ≤ i6))
                  (br (decide (i6 < ((nums1.length : Nat) : Int)))
                    (optK nums1[i6.toNat]? fun wv7 =>
                    Ab.asInt wv7 .i64 fun wn8 =>
                    r (.s1 l0n l0 nums1n nums1 (w64 (i6 + 1)) [iv wn8]))
                    (none))
                  (none))
                (r (.s0 l0n l0 nums1n nums1 (w64 (i6 + 1)))))
              (none))
            (none))
          (none))
        (none))
      (d (.x0))
  | .s1 l0n l0 nums1n nums1 i6 obj0 =>
    br (decide (i6 < ((nums1.length : Nat) : Int)))
      (br (decide (0 ≤ i6))
        (br (decide (i6 < ((nums1.length : Nat) : Int)))
          (optK nums1[i6.toNat]? fun wv9 =>
          Ab.asInt wv9 .i64 fun wn10 =>
          br (decide (0 ≤ w64 (((nums1.length : Nat) : Int) - 1)))
            (br (decide (w64 (((nums1.length : Nat) : Int) - 1) < ((nums1.length : Nat) : Int)))
              (optK (nums1[(w64 (((nums1.length : Nat) : Int) - 1)).toNat]?) fun wv11 =>
              Ab.asInt wv11 .i64 fun wn12 =>
              optK (K f_ref09_Has [AV.lst 2 l0n l0, iv wn10, iv wn12]) fun wv13 =>
              Ab.asBool wv13 fun wb14 =>
              br wb14
                (br (decide (0 ≤ i6))
                  (br (decide (i6 < ((nums1.length : Nat) : Int)))
                    (optK nums1[i6.toNat]? fun wv15 =>
                    Ab.asInt wv15 .i64 fun wn16 =>
                    br (lenOk (obj0.length + [iv wn16].length) 8 && lenOk (obj0.length + [iv wn16].length) 1)
                      (r (.s1 l0n l0 nums1n nums1 (w64 (i6 + 1)) (obj0 ++ [iv wn16])))
                      (none))
                    (none))
                  (none))
                (r (.s1 l0n l0 nums1n nums1 (w64 (i6 + 1)) obj0)))
              (none))
            (none))
          (none))
        (none))
      (d (.x1 obj0))
theorem roundref09_Pick_0 (K : PureK) {β : Type} (r : Env → Heap → Option β) (k : Ex → Env → Heap → Option β) (s : Sref09_Pick_0) : tellOne X K 0 14 0 [(0, 1, 0), (1, 1, 0), (2, 1, 0)] 0 clref09_Pick_0 cloref09_Pick_0 r k (Eref09_Pick_0 s) (Href09_Pick_0 s) = Rref09_Pick_0 K (Tref09_Pick_0 k) (fun s => r (Eref09_Pick_0 s) (Href09_Pick_0 s)) s := by
  cases s <;> kernel_rfl
theorem Oref09_Pick_0.bind_k {β γ : Type} (o : Oref09_Pick_0) (c0 : Option β) (c1 : (List AV) → Option β) (φ : β → Option γ) : (Oref09_Pick_0.k o c0 c1).bind φ = Oref09_Pick_0.k o (c0.bind φ) (fun obj0 => (c1 obj0).bind φ) := by cases o <;> rfl
theorem natref09_Pick_0 (K : PureK) {β γ : Type} (φ : β → Option γ) (d : Oref09_Pick_0 → Option β) (r : Sref09_Pick_0 → Option β) (s : Sref09_Pick_0) : Rref09_Pick_0 K (fun o => (d o).bind φ) (fun s => (r s).bind φ) s = (Rref09_Pick_0 K d r s).bind φ := by
  cases s <;> simp only [Rref09_Pick_0, bind_optK, bind_br, bind_asInt, bind_asBool, bind_asStr, bind_asLst, bind_asAgg, bind_asTup, bind_asBig, bind_asErr, bind_none]
theorem outref09_Pick_0 (o : Oref09_Pick_0) : ∃ x e' h', ∀ {β : Type} (k : Ex → Env → Heap → Option β), Tref09_Pick_0 k o = k x e' h' := by cases o <;> exact ⟨_, _, _, fun _ => rfl⟩
theorem okref09_Pick_0 {K : PureK} (hX : Sound X) (hK : KOk X K) {lref09_Pick_0 : Sref09_Pick_0 → Option Oref09_Pick_0} (hl : ∀ s o, lref09_Pick_0 s = some o → ∃ m, fuelRec (Rref09_Pick_0 K some) m s = some o) (β : Type) (e : Env) (h : Heap) (k : Ex → Env → Heap → Option β) (r : β) (hr : (Fref09_Pick_0 lref09_Pick_0).run e h k = some r) : ∃ x e' h', k x e' h' = some r ∧ CodeAt X (.loop (loopBody (X).P 14 0)) e h x e' h' := by
  obtain ⟨fn, c, hin⟩ := loopIn_of (X := X) (f := 14) (i := 0) (key := 3) (by kernel_rfl)
  simp only [Fref09_Pick_0] at hr
  split at hr
  · rename_i hlen
    have hlen := Nat.eq_of_beq_eq_true hlen
    split at hr
    · rename_i q0 q1 q5 q6
      obtain ⟨o, ho, hr⟩ := optK_some hr
      refine tell_ok hX (KOk.congr (X := X) (Y := X) rfl rfl hK) hin (E := Eref09_Pick_0) (H := Href09_Pick_0) (R := fun d r => Rref09_Pick_0 K d r) (T := Tref09_Pick_0) (ts := [(0, 1, 0), (1, 1, 0), (2, 1, 0)]) (len := 0) (cl := clref09_Pick_0) (clo := cloref09_Pick_0) (roundref09_Pick_0 K) (natref09_Pick_0 K) outref09_Pick_0 (hl _ _ ho) (cl0 := clref09_Pick_0) (ts0 := []) ?_ rfl (by kernel_rfl) (by kernel_rfl) hr
      rw [clear_lit e 33 hlen, show clearEnv clref09_Pick_0 ((List.range 33).map fun i => e.getD i .dead) = [e.getD 0 .dead, e.getD 1 .dead, .dead, .dead, .dead, e.getD 5 .dead, e.getD 6 .dead, .dead, .dead, .dead, .dead, .dead, .dead, .dead, .dead, .dead, .dead, .dead, .dead, .dead, .dead, .dead, .dead, .dead, .dead, .dead, .dead, .dead, .dead, .dead, .dead, .dead, .dead] from by kernel_rfl]; rw [q0, q1, q5, q6]
      kernel_rfl
    · cases hr
  · cases hr
noncomputable def Rref09_Pick (K : PureK) (lref09_Pick_0 : Sref09_Pick_0 → Option Oref09_Pick_0) (l0n : Bool) (l0 : List AV) (nums1n : Bool) (nums1 : List AV) : Option AV :=
  optK (lref09_Pick_0 (Sref09_Pick_0.s0 l0n l0 nums1n nums1 0)) fun wo1 => Oref09_Pick_0.k wo1
      (some (AV.lst 1 true []))
      (fun (obj0_3 : List AV) => some (AV.lst 1 false obj0_3))
theorem topref09_Pick (K : PureK) (lref09_Pick_0 : Sref09_Pick_0 → Option Oref09_Pick_0) (l0n : Bool) (l0 : List AV) (nums1n : Bool) (nums1 : List AV) : topK (addLp X 14 3 (Fref09_Pick_0 lref09_Pick_0)) K 0 f_ref09_Pick [(.lst 2 l0n l0), (.lst 1 nums1n nums1)] = Rref09_Pick K lref09_Pick_0 l0n l0 nums1n nums1 := by kernel_rfl
theorem pcref09_Pick {K : PureK} (hK : KOk X K) {lref09_Pick_0 : Sref09_Pick_0 → Option Oref09_Pick_0} (href09_Pick_0 : ∀ s o, lref09_Pick_0 s = some o → ∃ m, fuelRec (Rref09_Pick_0 K some) m s = some o) {l0n : Bool} {l0 : List AV} {nums1n : Bool} {nums1 : List AV} {v : AV} (h : Rref09_Pick K lref09_Pick_0 l0n l0 nums1n nums1 = some v) : PureCall X f_ref09_Pick [(.lst 2 l0n l0), (.lst 1 nums1n nums1)] v := by
  have hSo0 := soundX
  obtain ⟨_, _, hin0⟩ := loopIn_of (X := X) (f := 14) (i := 0) (key := 3) (by kernel_rfl)
  have hSo1 := sound_add hSo0 hin0 (okref09_Pick_0 hSo0 hK href09_Pick_0)
  exact tell_top (X := X) (Y := (addLp X 14 3 (Fref09_Pick_0 lref09_Pick_0))) rfl rfl hSo1 hK ((topref09_Pick K lref09_Pick_0 l0n l0 nums1n nums1).trans h)

/-! 15: escheat/escheatref09.Same -/
inductive Sref09_Same_0 where
  | s0 (a0n : Bool) (a0 : List AV) (b1n : Bool) (b1 : List AV) (i5 : Int)

inductive Oref09_Same_0 where
  | x0 (t4 : Bool)
  | x1

def Oref09_Same_0.k {β : Type} (o : Oref09_Same_0) (c0 : Bool → Option β) (c1 : Option β) : Option β := match o with
  | .x0 t4 => c0 t4
  | .x1 => c1

def Eref09_Same_0 : Sref09_Same_0 → Env
  | .s0 a0n a0 b1n b1 i5 => [(.lst 2 a0n a0), (.lst 2 b1n b1), .dead, .dead, .dead, (.v (.int .i64 i5)), .dead, .dead, .dead, .dead, .dead, .dead, .dead, .dead, .dead, .dead, .dead, .dead, .dead, .dead, .dead, .dead, .dead, .dead, .dead, .dead]

def Href09_Same_0 : Sref09_Same_0 → Heap
  | .s0 a0n a0 b1n b1 i5 => []

def Tref09_Same_0 {β : Type} (k : Ex → Env → Heap → Option β) (o : Oref09_Same_0) : Option β := Oref09_Same_0.k o (fun t4 => k .ret [.dead, .dead, .dead, .dead, (.v (.bool t4)), .dead, .dead, .dead, .dead, .dead, .dead, .dead, .dead, .dead, .dead, .dead, .dead, .dead, .dead, .dead, .dead, .dead, .dead, .dead, .dead, .dead] []) (k (.exit 0) [.dead, .dead, .dead, .dead, .dead, .dead, .dead, .dead, .dead, .dead, .dead, .dead, .dead, .dead, .dead, .dead, .dead, .dead, .dead, .dead, .dead, .dead, .dead, .dead, .dead, .dead] [])

def Fref09_Same_0 (lref09_Same_0 : Sref09_Same_0 → Option Oref09_Same_0) : LoopF := ⟨fun e h k => match Nat.beq e.length 26 with
  | true => (match e.getD 0 .dead, e.getD 1 .dead, e.getD 5 .dead, h with
    | (.lst 2 a0n a0), (.lst 2 b1n b1), (.v (.int .i64 i5)), [] => optK (lref09_Same_0 (.s0 a0n a0 b1n b1 i5)) (Tref09_Same_0 k)
    | _, _, _, _ => none)
  | false => none⟩

def clref09_Same_0 : List Tmp := [2, 3, 4, 6, 7, 8, 9, 10, 11, 12, 13, 14, 15, 16, 17, 18, 19, 20, 21, 22, 23, 24, 25]
def cloref09_Same_0 : List Tmp := [0, 1, 2, 3, 5, 6, 7, 8, 9, 10, 11, 12, 13, 14, 15, 16, 17, 18, 19, 20, 21, 22, 23, 24, 25]

noncomputable def Rref09_Same_0 {β : Type} (K : PureK) (d : Oref09_Same_0 → Option β) (r : Sref09_Same_0 → Option β) : Sref09_Same_0 → Option β
  | .s0 a0n a0 b1n b1 i5 =>
    br (decide (i5 < ((a0.length : Nat) : Int)))
      (br (decide (0 ≤ i5))
        (br (decide (i5 < ((a0.length : Nat) : Int)))
          (optK a0[i5.toNat]? fun wv1 =>
          Ab.asAgg wv1 2 fun wg2 =>
          Ab.asInt (wg2 0) .i64 fun wn3 =>
          Ab.asInt (wg2 1) .i64 fun wn4 =>
          br (decide (0 ≤ i5))
            (br (decide (i5 < ((b1.length : Nat) : Int)))
              (optK b1[i5.toNat]? fun wv5 =>
              Ab.asAgg wv5 2 fun wg6 =>
              Ab.asInt (wg6 0) .i64 fun wn7 =>
              Ab.asInt (wg6 1) .i64 fun wn8 =>
              br (!(wn3 == wn7 && wn4 == wn8))
                (d (.x0 false))
                (r (.s0 a0n a0 b1n b1 (w64 (i5 + 1)))))
              (none))
            (none))
          (none))
        (none))
      (d (.x1))
theorem roundref09_Same_0 (K : PureK) {β : Type} (r : Env → Heap → Option β) (k : Ex → Env → Heap → Option β) (s : Sref09_Same_0) : tellOne X K 0 15 0 [(0, 1, 0), (1, 1, 0), (2, 1, 0)] 0 clref09_Same_0 cloref09_Same_0 r k (Eref09_Same_0 s) (Href09_Same_0 s) = Rref09_Same_0 K (Tref09_Same_0 k) (fun s => r (Eref09_Same_0 s) (Href09_Same_0 s)) s := by
  cases s <;> kernel_rfl
theorem Oref09_Same_0.bind_k {β γ : Type} (o : Oref09_Same_0) (c0 : Bool → Option β) (c1 : Option β) (φ : β → Option γ) : (Oref09_Same_0.k o c0 c1).bind φ = Oref09_Same_0.k o (fun t4 => (c0 t4).bind φ) (c1.bind φ) := by cases o <;> rfl
theorem natref09_Same_0 (K : PureK) {β γ : Type} (φ : β → Option γ) (d : Oref09_Same_0 → Option β) (r : Sref09_Same_0 → Option β) (s : Sref09_Same_0) : Rref09_Same_0 K (fun o => (d o).bind φ) (fun s => (r s).bind φ) s = (Rref09_Same_0 K d r s).bind φ := by
  cases s <;> simp only [Rref09_Same_0, bind_optK, bind_br, bind_asInt, bind_asBool, bind_asStr, bind_asLst, bind_asAgg, bind_asTup, bind_asBig, bind_asErr, bind_none]
theorem outref09_Same_0 (o : Oref09_Same_0) : ∃ x e' h', ∀ {β : Type} (k : Ex → Env → Heap → Option β), Tref09_Same_0 k o = k x e' h' := by cases o <;> exact ⟨_, _, _, fun _ => rfl⟩
theorem okref09_Same_0 {K : PureK} (hX : Sound X) (hK : KOk X K) {lref09_Same_0 : Sref09_Same_0 → Option Oref09_Same_0} (hl : ∀ s o, lref09_Same_0 s = some o → ∃ m, fuelRec (Rref09_Same_0 K some) m s = some o) (β : Type) (e : Env) (h : Heap) (k : Ex → Env → Heap → Option β) (r : β) (hr : (Fref09_Same_0 lref09_Same_0).run e h k = some r) : ∃ x e' h', k x e' h' = some r ∧ CodeAt X (.loop (loopBody (X).P 15 0)) e h x e' h' := by
  obtain ⟨fn, c, hin⟩ := loopIn_of (X := X) (f := 15) (i := 0) (key := 4) (by kernel_rfl)
  simp only [Fref09_Same_0] at hr
  split at hr
  · rename_i hlen
    have hlen := Nat.eq_of_beq_eq_true hlen
    split at hr
    · rename_i q0 q1 q5
      obtain ⟨o, ho, hr⟩ := optK_some hr
      refine tell_ok hX (KOk.congr (X := X) (Y := X) rfl rfl hK) hin (E := Eref09_Same_0) (H := Href09_Same_0) (R := fun d r => Rref09_Same_0 K d r) (T := Tref09_Same_0) (ts := [(0, 1, 0), (1, 1, 0), (2, 1, 0)]) (len := 0) (cl := clref09_Same_0) (clo := cloref09_Same_0) (roundref09_Same_0 K) (natref09_Same_0 K) outref09_Same_0 (hl _ _ ho) (cl0 := clref09_Same_0) (ts0 := []) ?_ rfl (by kernel_rfl) (by kernel_rfl) hr
      rw [clear_lit e 26 hlen, show clearEnv clref09_Same_0 ((List.range 26).map fun i => e.getD i .dead) = [e.getD 0 .dead, e.getD 1 .dead, .dead, .dead, .dead, e.getD 5 .dead, .dead, .dead, .dead, .dead, .dead, .dead, .dead, .dead, .dead, .dead, .dead, .dead, .dead, .dead, .dead, .dead, .dead, .dead, .dead, .dead] from by kernel_rfl]; rw [q0, q1, q5]
      kernel_rfl
    · cases hr
  · cases hr
noncomputable def Rref09_Same (K : PureK) (lref09_Same_0 : Sref09_Same_0 → Option Oref09_Same_0) (a0n : Bool) (a0 : List AV) (b1n : Bool) (b1 : List AV) : Option AV :=
  br (((a0.length : Nat) : Int) != ((b1.length : Nat) : Int))
      (some (bv false))
      (optK (lref09_Same_0 (Sref09_Same_0.s0 a0n a0 b1n b1 0)) fun wo1 => Oref09_Same_0.k wo1
        (fun (t4_2 : Bool) => some (bv t4_2))
        (some (bv true)))
theorem topref09_Same (K : PureK) (lref09_Same_0 : Sref09_Same_0 → Option Oref09_Same_0) (a0n : Bool) (a0 : List AV) (b1n : Bool) (b1 : List AV) : topK (addLp X 15 4 (Fref09_Same_0 lref09_Same_0)) K 0 f_ref09_Same [(.lst 2 a0n a0), (.lst 2 b1n b1)] = Rref09_Same K lref09_Same_0 a0n a0 b1n b1 := by kernel_rfl
theorem pcref09_Same {K : PureK} (hK : KOk X K) {lref09_Same_0 : Sref09_Same_0 → Option Oref09_Same_0} (href09_Same_0 : ∀ s o, lref09_Same_0 s = some o → ∃ m, fuelRec (Rref09_Same_0 K some) m s = some o) {a0n : Bool} {a0 : List AV} {b1n : Bool} {b1 : List AV} {v : AV} (h : Rref09_Same K lref09_Same_0 a0n a0 b1n b1 = some v) : PureCall X f_ref09_Same [(.lst 2 a0n a0), (.lst 2 b1n b1)] v := by
  have hSo0 := soundX
  obtain ⟨_, _, hin0⟩ := loopIn_of (X := X) (f := 15) (i := 0) (key := 4) (by kernel_rfl)
  have hSo1 := sound_add hSo0 hin0 (okref09_Same_0 hSo0 hK href09_Same_0)
  exact tell_top (X := X) (Y := (addLp X 15 4 (Fref09_Same_0 lref09_Same_0))) rfl rfl hSo1 hK ((topref09_Same K lref09_Same_0 a0n a0 b1n b1).trans h)

/-! 5: escheat/escheatlaw09.UidsOf -/
inductive Slaw09_UidsOf_0 where
  | s0 (nums0n : Bool) (nums0 : List AV) (n1 : Int) (l5n : Bool) (l5 : List AV) (in6 : Bool) (i7 : Int)

inductive Olaw09_UidsOf_0 where
  | x0 (nums0n : Bool) (nums0 : List AV) (n1 : Int) (l5n : Bool) (l5 : List AV) (in6 : Bool)

def Olaw09_UidsOf_0.k {β : Type} (o : Olaw09_UidsOf_0) (c0 : Bool → (List AV) → Int → Bool → (List AV) → Bool → Option β) : Option β := match o with
  | .x0 nums0n nums0 n1 l5n l5 in6 => c0 nums0n nums0 n1 l5n l5 in6

def Elaw09_UidsOf_0 : Slaw09_UidsOf_0 → Env
  | .s0 nums0n nums0 n1 l5n l5 in6 i7 => [(.lst 1 nums0n nums0), (.v (.int .i64 n1)), .dead, .dead, .dead, (.lst 2 l5n l5), (.v (.bool in6)), (.v (.int .i64 i7)), .dead, .dead, .dead, .dead, .dead, .dead, .dead, .dead, .dead, .dead, .dead, .dead, .dead, .dead, .dead, .dead, .dead, .dead, .dead, .dead, .dead, .dead, .dead, .dead, .dead, .dead, .dead, .dead, .dead, .dead, .dead, .dead, .dead, .dead, .dead, .dead, .dead, .dead, .dead, .dead, .dead, .dead, .dead, .dead, .dead, .dead]

def Hlaw09_UidsOf_0 : Slaw09_UidsOf_0 → Heap
  | .s0 nums0n nums0 n1 l5n l5 in6 i7 => []

def Tlaw09_UidsOf_0 {β : Type} (k : Ex → Env → Heap → Option β) (o : Olaw09_UidsOf_0) : Option β := Olaw09_UidsOf_0.k o (fun nums0n nums0 n1 l5n l5 in6 => k (.exit 0) [(.lst 1 nums0n nums0), (.v (.int .i64 n1)), .dead, .dead, .dead, (.lst 2 l5n l5), (.v (.bool in6)), .dead, .dead, .dead, .dead, .dead, .dead, .dead, .dead, .dead, .dead, .dead, .dead, .dead, .dead, .dead, .dead, .dead, .dead, .dead, .dead, .dead, .dead, .dead, .dead, .dead, .dead, .dead, .dead, .dead, .dead, .dead, .dead, .dead, .dead, .dead, .dead, .dead, .dead, .dead, .dead, .dead, .dead, .dead, .dead, .dead, .dead, .dead] [])

def Flaw09_UidsOf_0 (llaw09_UidsOf_0 : Slaw09_UidsOf_0 → Option Olaw09_UidsOf_0) : LoopF := ⟨fun e h k => match Nat.beq e.length 54 with
  | true => (match e.getD 0 .dead, e.getD 1 .dead, e.getD 5 .dead, e.getD 6 .dead, e.getD 7 .dead, h with
    | (.lst 1 nums0n nums0), (.v (.int .i64 n1)), (.lst 2 l5n l5), (.v (.bool in6)), (.v (.int .i64 i7)), [] => optK (llaw09_UidsOf_0 (.s0 nums0n nums0 n1 l5n l5 in6 i7)) (Tlaw09_UidsOf_0 k)
    | _, _, _, _, _, _ => none)
  | false => none⟩

def cllaw09_UidsOf_0 : List Tmp := [2, 3, 4, 8, 9, 10, 11, 12, 13, 14, 15, 16, 17, 18, 19, 20, 21, 22, 23, 24, 25, 26, 27, 28, 29, 30, 31, 32, 33, 34, 35, 36, 37, 38, 39, 40, 41, 42, 43, 44, 45, 46, 47, 48, 49, 50, 51, 52, 53]
def clolaw09_UidsOf_0 : List Tmp := [2, 3, 4, 7, 8, 9, 10, 11, 12, 13, 14, 15, 16, 17, 18, 19, 20, 21, 22, 23, 24, 25, 26, 27, 28, 29, 30, 31, 32, 33, 34, 35, 36, 37, 38, 39, 40, 41, 42, 43, 44, 45, 46, 47, 48, 49, 50, 51, 52, 53]

noncomputable def Rlaw09_UidsOf_0 {β : Type} (K : PureK) (d : Olaw09_UidsOf_0 → Option β) (r : Slaw09_UidsOf_0 → Option β) : Slaw09_UidsOf_0 → Option β
  | .s0 nums0n nums0 n1 l5n l5 in6 i7 =>
    br (decide (i7 < ((nums0.length : Nat) : Int)))
      (optK (br in6
          (some (bv true))
          (br (decide (0 ≤ i7))
            (br (decide (i7 < ((nums0.length : Nat) : Int)))
              (optK nums0[i7.toNat]? fun wv2 =>
              Ab.asInt wv2 .i64 fun wn3 =>
              some (bv (wn3 == n1)))
              (none))
            (none))) fun wv1 =>
      Ab.asBool wv1 fun wb4 =>
      r (.s0 nums0n nums0 n1 l5n l5 wb4 (w64 (i7 + 1))))
      (d (.x0 nums0n nums0 n1 l5n l5 in6))
theorem roundlaw09_UidsOf_0 (K : PureK) {β : Type} (r : Env → Heap → Option β) (k : Ex → Env → Heap → Option β) (s : Slaw09_UidsOf_0) : tellOne X K 0 5 0 [(0, 1, 0), (1, 1, 0), (2, 1, 0)] 0 cllaw09_UidsOf_0 clolaw09_UidsOf_0 r k (Elaw09_UidsOf_0 s) (Hlaw09_UidsOf_0 s) = Rlaw09_UidsOf_0 K (Tlaw09_UidsOf_0 k) (fun s => r (Elaw09_UidsOf_0 s) (Hlaw09_UidsOf_0 s)) s := by
  cases s <;> kernel_rfl
theorem Olaw09_UidsOf_0.bind_k {β γ : Type} (o : Olaw09_UidsOf_0) (c0 : Bool → (List AV) → Int → Bool → (List AV) → Bool → Option β) (φ : β → Option γ) : (Olaw09_UidsOf_0.k o c0).bind φ = Olaw09_UidsOf_0.k o (fun nums0n nums0 n1 l5n l5 in6 => (c0 nums0n nums0 n1 l5n l5 in6).bind φ) := by cases o <;> rfl
theorem natlaw09_UidsOf_0 (K : PureK) {β γ : Type} (φ : β → Option γ) (d : Olaw09_UidsOf_0 → Option β) (r : Slaw09_UidsOf_0 → Option β) (s : Slaw09_UidsOf_0) : Rlaw09_UidsOf_0 K (fun o => (d o).bind φ) (fun s => (r s).bind φ) s = (Rlaw09_UidsOf_0 K d r s).bind φ := by
  cases s <;> simp only [Rlaw09_UidsOf_0, bind_optK, bind_br, bind_asInt, bind_asBool, bind_asStr, bind_asLst, bind_asAgg, bind_asTup, bind_asBig, bind_asErr, bind_none]
theorem outlaw09_UidsOf_0 (o : Olaw09_UidsOf_0) : ∃ x e' h', ∀ {β : Type} (k : Ex → Env → Heap → Option β), Tlaw09_UidsOf_0 k o = k x e' h' := by cases o <;> exact ⟨_, _, _, fun _ => rfl⟩
theorem oklaw09_UidsOf_0 {K : PureK} (hX : Sound X) (hK : KOk X K) {llaw09_UidsOf_0 : Slaw09_UidsOf_0 → Option Olaw09_UidsOf_0} (hl : ∀ s o, llaw09_UidsOf_0 s = some o → ∃ m, fuelRec (Rlaw09_UidsOf_0 K some) m s = some o) (β : Type) (e : Env) (h : Heap) (k : Ex → Env → Heap → Option β) (r : β) (hr : (Flaw09_UidsOf_0 llaw09_UidsOf_0).run e h k = some r) : ∃ x e' h', k x e' h' = some r ∧ CodeAt X (.loop (loopBody (X).P 5 0)) e h x e' h' := by
  obtain ⟨fn, c, hin⟩ := loopIn_of (X := X) (f := 5) (i := 0) (key := 8) (by kernel_rfl)
  simp only [Flaw09_UidsOf_0] at hr
  split at hr
  · rename_i hlen
    have hlen := Nat.eq_of_beq_eq_true hlen
    split at hr
    · rename_i q0 q1 q5 q6 q7
      obtain ⟨o, ho, hr⟩ := optK_some hr
      refine tell_ok hX (KOk.congr (X := X) (Y := X) rfl rfl hK) hin (E := Elaw09_UidsOf_0) (H := Hlaw09_UidsOf_0) (R := fun d r => Rlaw09_UidsOf_0 K d r) (T := Tlaw09_UidsOf_0) (ts := [(0, 1, 0), (1, 1, 0), (2, 1, 0)]) (len := 0) (cl := cllaw09_UidsOf_0) (clo := clolaw09_UidsOf_0) (roundlaw09_UidsOf_0 K) (natlaw09_UidsOf_0 K) outlaw09_UidsOf_0 (hl _ _ ho) (cl0 := cllaw09_UidsOf_0) (ts0 := []) ?_ rfl (by kernel_rfl) (by kernel_rfl) hr
      rw [clear_lit e 54 hlen, show clearEnv cllaw09_UidsOf_0 ((List.range 54).map fun i => e.getD i .dead) = [e.getD 0 .dead, e.getD 1 .dead, .dead, .dead, .dead, e.getD 5 .dead, e.getD 6 .dead, e.getD 7 .dead, .dead, .dead, .dead, .dead, .dead, .dead, .dead, .dead, .dead, .dead, .dead, .dead, .dead, .dead, .dead, .dead, .dead, .dead, .dead, .dead, .dead, .dead, .dead, .dead, .dead, .dead, .dead, .dead, .dead, .dead, .dead, .dead, .dead, .dead, .dead, .dead, .dead, .dead, .dead, .dead, .dead, .dead, .dead, .dead, .dead, .dead] from by kernel_rfl]; rw [q0, q1, q5, q6, q7]
      kernel_rfl
    · cases hr
  · cases hr
noncomputable def Rlaw09_UidsOf (K : PureK) (llaw09_UidsOf_0 : Slaw09_UidsOf_0 → Option Olaw09_UidsOf_0) (nums0n : Bool) (nums0 : List AV) (n1 : Int) : Option AV :=
  optK (K f_law09_alive []) fun wv9 =>
    Ab.asBool wv9 fun wb10 =>
    br (!wb10)
      (some (bv false))
      (optK (br (decide (((nums0.length : Nat) : Int) > 200))
          (some (bv true))
          (optK (K f_ref09_Rising [AV.lst 1 nums0n nums0]) fun wv12 =>
          Ab.asBool wv12 fun wb13 =>
          some (bv !wb13))) fun wv11 =>
      Ab.asBool wv11 fun wb14 =>
      br wb14
        (some (bv true))
        (optK (K f_uids_Of [AV.lst 1 nums0n nums0]) fun wv15 =>
        Ab.asLst wv15 2 fun wb16 wr16 =>
        optK (llaw09_UidsOf_0 (Slaw09_UidsOf_0.s0 nums0n nums0 n1 wb16 wr16 false 0)) fun wo17 => Olaw09_UidsOf_0.k wo17 (fun (nums0n_18 : Bool) (nums0_18 : List AV) (n1_18 : Int) (l5n_18 : Bool) (l5_18 : List AV) (in6_18 : Bool) =>
        optK (optK (K f_uids_Has [AV.lst 2 l5n_18 l5_18, iv n1_18, iv 4294967295]) fun wv20 =>
          Ab.asBool wv20 fun wb21 =>
          br (wb21 == in6_18)
            (optK (K f_uids_Pick [AV.lst 2 l5n_18 l5_18, AV.lst 1 nums0n_18 nums0_18]) fun wv22 =>
            Ab.asLst wv22 1 fun wb23 wr23 =>
            optK (K f_ref09_Ints [AV.lst 1 wb23 wr23, AV.lst 1 nums0n_18 nums0_18]) fun wv24 =>
            Ab.asBool wv24 fun wb25 =>
            br wb25
              (some (bv (decide (((l5_18.length : Nat) : Int) ≤ ((nums0_18.length : Nat) : Int)))))
              (some (bv false)))
            (some (bv false))) fun wv19 =>
        Ab.asBool wv19 fun wb26 =>
        some (bv wb26))))
theorem toplaw09_UidsOf (K : PureK) (llaw09_UidsOf_0 : Slaw09_UidsOf_0 → Option Olaw09_UidsOf_0) (nums0n : Bool) (nums0 : List AV) (n1 : Int) : topK (addLp X 5 8 (Flaw09_UidsOf_0 llaw09_UidsOf_0)) K 0 f_law09_UidsOf [(.lst 1 nums0n nums0), (.v (.int .i64 n1))] = Rlaw09_UidsOf K llaw09_UidsOf_0 nums0n nums0 n1 := by kernel_rfl
theorem pclaw09_UidsOf {K : PureK} (hK : KOk X K) {llaw09_UidsOf_0 : Slaw09_UidsOf_0 → Option Olaw09_UidsOf_0} (hlaw09_UidsOf_0 : ∀ s o, llaw09_UidsOf_0 s = some o → ∃ m, fuelRec (Rlaw09_UidsOf_0 K some) m s = some o) {nums0n : Bool} {nums0 : List AV} {n1 : Int} {v : AV} (h : Rlaw09_UidsOf K llaw09_UidsOf_0 nums0n nums0 n1 = some v) : PureCall X f_law09_UidsOf [(.lst 1 nums0n nums0), (.v (.int .i64 n1))] v := by
  have hSo0 := soundX
  obtain ⟨_, _, hin0⟩ := loopIn_of (X := X) (f := 5) (i := 0) (key := 8) (by kernel_rfl)
  have hSo1 := sound_add hSo0 hin0 (oklaw09_UidsOf_0 hSo0 hK hlaw09_UidsOf_0)
  exact tell_top (X := X) (Y := (addLp X 5 8 (Flaw09_UidsOf_0 llaw09_UidsOf_0))) rfl rfl hSo1 hK ((toplaw09_UidsOf K llaw09_UidsOf_0 nums0n nums0 n1).trans h)

/-! 4: escheat/escheatlaw09.UidsPicks -/
noncomputable def Rlaw09_UidsPicks (K : PureK) (l0n : Bool) (l0 : List AV) (nums1n : Bool) (nums1 : List AV) (two2_0 : Int) (two2_1 : Int) : Option AV :=
  optK (K f_law09_alive []) fun wv1 =>
    Ab.asBool wv1 fun wb2 =>
    br (!wb2)
      (some (bv false))
      (optK (br (decide (((l0.length : Nat) : Int) > 200))
          (some (bv true))
          (some (bv (decide (((nums1.length : Nat) : Int) > 200))))) fun wv3 =>
      Ab.asBool wv3 fun wb4 =>
      br wb4
        (some (bv true))
        (optK (K f_uids_Has [AV.lst 2 l0n l0, iv two2_0, iv two2_1]) fun wv5 =>
        Ab.asBool wv5 fun wb6 =>
        optK (K f_ref09_Has [AV.lst 2 l0n l0, iv two2_0, iv two2_1]) fun wv7 =>
        Ab.asBool wv7 fun wb8 =>
        br (!wb6 == wb8)
          (some (bv false))
          (optK (K f_ref09_Rising [AV.lst 1 nums1n nums1]) fun wv9 =>
          Ab.asBool wv9 fun wb10 =>
          br (!wb10)
            (some (bv true))
            (optK (optK (K f_uids_Pick [AV.lst 2 l0n l0, AV.lst 1 nums1n nums1]) fun wv12 =>
              Ab.asLst wv12 1 fun wb13 wr13 =>
              optK (K f_ref09_Pick [AV.lst 2 l0n l0, AV.lst 1 nums1n nums1]) fun wv14 =>
              Ab.asLst wv14 1 fun wb15 wr15 =>
              optK (K f_ref09_Ints [AV.lst 1 wb13 wr13, AV.lst 1 wb15 wr15]) fun wv16 =>
              Ab.asBool wv16 fun wb17 =>
              br wb17
                (optK (K f_uids_Of [AV.lst 1 nums1n nums1]) fun wv18 =>
                Ab.asLst wv18 2 fun wb19 wr19 =>
                optK (K f_ref09_Of [AV.lst 1 nums1n nums1]) fun wv20 =>
                Ab.asLst wv20 2 fun wb21 wr21 =>
                optK (K f_ref09_Same [AV.lst 2 wb19 wr19, AV.lst 2 wb21 wr21]) fun wv22 =>
                Ab.asBool wv22 fun wb23 =>
                some (bv wb23))
                (some (bv false))) fun wv11 =>
            Ab.asBool wv11 fun wb24 =>
            some (bv wb24)))))
theorem toplaw09_UidsPicks (K : PureK) (l0n : Bool) (l0 : List AV) (nums1n : Bool) (nums1 : List AV) (two2_0 : Int) (two2_1 : Int) : topK X K 0 f_law09_UidsPicks [(.lst 2 l0n l0), (.lst 1 nums1n nums1), (.agg [(.v (.int .i64 two2_0)), (.v (.int .i64 two2_1))])] = Rlaw09_UidsPicks K l0n l0 nums1n nums1 two2_0 two2_1 := by kernel_rfl
theorem pclaw09_UidsPicks {K : PureK} (hK : KOk X K) {l0n : Bool} {l0 : List AV} {nums1n : Bool} {nums1 : List AV} {two2_0 : Int} {two2_1 : Int} {v : AV} (h : Rlaw09_UidsPicks K l0n l0 nums1n nums1 two2_0 two2_1 = some v) : PureCall X f_law09_UidsPicks [(.lst 2 l0n l0), (.lst 1 nums1n nums1), (.agg [(.v (.int .i64 two2_0)), (.v (.int .i64 two2_1))])] v := by
  have hSo0 := soundX
  exact tell_top (X := X) (Y := X) rfl rfl hSo0 hK ((toplaw09_UidsPicks K l0n l0 nums1n nums1 two2_0 two2_1).trans h)

end Go.Proofs.YtckbjhmiopjlkaaDoor
