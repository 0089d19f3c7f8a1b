import Derived.Test.YtkkbdebmilagoaaGreatDoorCtx
set_option maxRecDepth 100000
set_option linter.unusedVariables false
set_option linter.unusedSimpArgs false
namespace Go.Proofs.YtkkbdebmilagoaaGreatDoor
open Go Go.Ab
/-! 12: escheat/escheatref09.Ints -/
inductive Sref09_Ints_0 where
  | s0 (a0n : Bool) (a0 : List AV) (b1n : Bool) (b1 : List AV) (i5 : Int)

inductive Oref09_Ints_0 where
  | x0 (t4 : Bool)
  | x1

def Oref09_Ints_0.k {β : Type} (o : Oref09_Ints_0) (c0 : Bool → Option β) (c1 : Option β) : Option β := match o with
  | .x0 t4 => c0 t4
  | .x1 => c1

def Eref09_Ints_0 : Sref09_Ints_0 → Env
  | .s0 a0n a0 b1n b1 i5 => [(.lst 1 a0n a0), (.lst 1 b1n b1), .dead, .dead, .dead, (.v (.int .i64 i5)), .dead, .dead, .dead, .dead, .dead, .dead, .dead, .dead, .dead, .dead, .dead, .dead, .dead, .dead, .dead, .dead, .dead, .dead, .dead, .dead]

def Href09_Ints_0 : Sref09_Ints_0 → Heap
  | .s0 a0n a0 b1n b1 i5 => []

def Tref09_Ints_0 {β : Type} (k : Ex → Env → Heap → Option β) (o : Oref09_Ints_0) : Option β := Oref09_Ints_0.k o (fun t4 => k .ret [.dead, .dead, .dead, .dead, (.v (.bool t4)), .dead, .dead, .dead, .dead, .dead, .dead, .dead, .dead, .dead, .dead, .dead, .dead, .dead, .dead, .dead, .dead, .dead, .dead, .dead, .dead, .dead] []) (k (.exit 0) [.dead, .dead, .dead, .dead, .dead, .dead, .dead, .dead, .dead, .dead, .dead, .dead, .dead, .dead, .dead, .dead, .dead, .dead, .dead, .dead, .dead, .dead, .dead, .dead, .dead, .dead] [])

def Fref09_Ints_0 (lref09_Ints_0 : Sref09_Ints_0 → Option Oref09_Ints_0) : LoopF := ⟨fun e h k => match Nat.beq e.length 26 with
  | true => (match e.getD 0 .dead, e.getD 1 .dead, e.getD 5 .dead, h with
    | (.lst 1 a0n a0), (.lst 1 b1n b1), (.v (.int .i64 i5)), [] => optK (lref09_Ints_0 (.s0 a0n a0 b1n b1 i5)) (Tref09_Ints_0 k)
    | _, _, _, _ => none)
  | false => none⟩

def clref09_Ints_0 : List Tmp := [2, 3, 4, 6, 7, 8, 9, 10, 11, 12, 13, 14, 15, 16, 17, 18, 19, 20, 21, 22, 23, 24, 25]
def cloref09_Ints_0 : List Tmp := [0, 1, 2, 3, 5, 6, 7, 8, 9, 10, 11, 12, 13, 14, 15, 16, 17, 18, 19, 20, 21, 22, 23, 24, 25]

noncomputable def Rref09_Ints_0 {β : Type} (K : PureK) (d : Oref09_Ints_0 → Option β) (r : Sref09_Ints_0 → Option β) : Sref09_Ints_0 → Option β
  | .s0 a0n a0 b1n b1 i5 =>
    br (decide (i5 < ((a0.length : Nat) : Int)))
      (br (decide (0 ≤ i5))
        (br (decide (i5 < ((a0.length : Nat) : Int)))
          (optK a0[i5.toNat]? fun wv1 =>
          Ab.asInt wv1 .i64 fun wn2 =>
          br (decide (0 ≤ i5))
            (br (decide (i5 < ((b1.length : Nat) : Int)))
              (optK b1[i5.toNat]? fun wv3 =>
              Ab.asInt wv3 .i64 fun wn4 =>
              br (wn2 != wn4)
                (d (.x0 false))
                (r (.s0 a0n a0 b1n b1 (w64 (i5 + 1)))))
              (none))
            (none))
          (none))
        (none))
      (d (.x1))
theorem roundref09_Ints_0 (K : PureK) {β : Type} (r : Env → Heap → Option β) (k : Ex → Env → Heap → Option β) (s : Sref09_Ints_0) : tellOne X K 0 12 0 [(0, 1, 0), (1, 1, 0), (2, 1, 0)] 0 clref09_Ints_0 cloref09_Ints_0 r k (Eref09_Ints_0 s) (Href09_Ints_0 s) = Rref09_Ints_0 K (Tref09_Ints_0 k) (fun s => r (Eref09_Ints_0 s) (Href09_Ints_0 s)) s := by
  cases s <;> kernel_rfl
theorem Oref09_Ints_0.bind_k {β γ : Type} (o : Oref09_Ints_0) (c0 : Bool → Option β) (c1 : Option β) (φ : β → Option γ) : (Oref09_Ints_0.k o c0 c1).bind φ = Oref09_Ints_0.k o (fun t4 => (c0 t4).bind φ) (c1.bind φ) := by cases o <;> rfl
theorem natref09_Ints_0 (K : PureK) {β γ : Type} (φ : β → Option γ) (d : Oref09_Ints_0 → Option β) (r : Sref09_Ints_0 → Option β) (s : Sref09_Ints_0) : Rref09_Ints_0 K (fun o => (d o).bind φ) (fun s => (r s).bind φ) s = (Rref09_Ints_0 K d r s).bind φ := by
  cases s <;> simp only [Rref09_Ints_0, bind_optK, bind_br, bind_asInt, bind_asBool, bind_asStr, bind_asLst, bind_asAgg, bind_asTup, bind_asBig, bind_asErr, bind_none]
theorem outref09_Ints_0 (o : Oref09_Ints_0) : ∃ x e' h', ∀ {β : Type} (k : Ex → Env → Heap → Option β), Tref09_Ints_0 k o = k x e' h' := by cases o <;> exact ⟨_, _, _, fun _ => rfl⟩
theorem okref09_Ints_0 {K : PureK} (hX : Sound X) (hK : KOk X K) {lref09_Ints_0 : Sref09_Ints_0 → Option Oref09_Ints_0} (hl : ∀ s o, lref09_Ints_0 s = some o → ∃ m, fuelRec (Rref09_Ints_0 K some) m s = some o) (β : Type) (e : Env) (h : Heap) (k : Ex → Env → Heap → Option β) (r : β) (hr : (Fref09_Ints_0 lref09_Ints_0).run e h k = some r) : ∃ x e' h', k x e' h' = some r ∧ CodeAt X (.loop (loopBody (X).P 12 0)) e h x e' h' := by
  obtain ⟨fn, c, hin⟩ := loopIn_of (X := X) (f := 12) (i := 0) (key := 4) (by kernel_rfl)
  simp only [Fref09_Ints_0] at hr
  split at hr
  · rename_i hlen
    have hlen := Nat.eq_of_beq_eq_true hlen
    split at hr
    · rename_i q0 q1 q5
      obtain ⟨o, ho, hr⟩ := optK_some hr
      refine tell_ok hX (KOk.congr (X := X) (Y := X) rfl rfl hK) hin (E := Eref09_Ints_0) (H := Href09_Ints_0) (R := fun d r => Rref09_Ints_0 K d r) (T := Tref09_Ints_0) (ts := [(0, 1, 0), (1, 1, 0), (2, 1, 0)]) (len := 0) (cl := clref09_Ints_0) (clo := cloref09_Ints_0) (roundref09_Ints_0 K) (natref09_Ints_0 K) outref09_Ints_0 (hl _ _ ho) (cl0 := clref09_Ints_0) (ts0 := []) ?_ rfl (by kernel_rfl) (by kernel_rfl) hr
      rw [clear_lit e 26 hlen, show clearEnv clref09_Ints_0 ((List.range 26).map fun i => e.getD i .dead) = [e.getD 0 .dead, e.getD 1 .dead, .dead, .dead, .dead, e.getD 5 .dead, .dead, .dead, .dead, .dead, .dead, .dead, .dead, .dead, .dead, .dead, .dead, .dead, .dead, .dead, .dead, .dead, .dead, .dead, .dead, .dead] from by kernel_rfl]; rw [q0, q1, q5]
      kernel_rfl
    · cases hr
  · cases hr
noncomputable def Rref09_Ints (K : PureK) (lref09_Ints_0 : Sref09_Ints_0 → Option Oref09_Ints_0) (a0n : Bool) (a0 : List AV) (b1n : Bool) (b1 : List AV) : Option AV :=
  br (((a0.length : Nat) : Int) != ((b1.length : Nat) : Int))
      (some (bv false))
      (optK (lref09_Ints_0 (Sref09_Ints_0.s0 a0n a0 b1n b1 0)) fun wo1 => Oref09_Ints_0.k wo1
        (fun (t4_2 : Bool) => some (bv t4_2))
        (some (bv true)))
theorem topref09_Ints (K : PureK) (lref09_Ints_0 : Sref09_Ints_0 → Option Oref09_Ints_0) (a0n : Bool) (a0 : List AV) (b1n : Bool) (b1 : List AV) : topK (addLp X 12 4 (Fref09_Ints_0 lref09_Ints_0)) K 0 f_ref09_Ints [(.lst 1 a0n a0), (.lst 1 b1n b1)] = Rref09_Ints K lref09_Ints_0 a0n a0 b1n b1 := by kernel_rfl
theorem pcref09_Ints {K : PureK} (hK : KOk X K) {lref09_Ints_0 : Sref09_Ints_0 → Option Oref09_Ints_0} (href09_Ints_0 : ∀ s o, lref09_Ints_0 s = some o → ∃ m, fuelRec (Rref09_Ints_0 K some) m s = some o) {a0n : Bool} {a0 : List AV} {b1n : Bool} {b1 : List AV} {v : AV} (h : Rref09_Ints K lref09_Ints_0 a0n a0 b1n b1 = some v) : PureCall X f_ref09_Ints [(.lst 1 a0n a0), (.lst 1 b1n b1)] v := by
  have hSo0 := soundX
  obtain ⟨_, _, hin0⟩ := loopIn_of (X := X) (f := 12) (i := 0) (key := 4) (by kernel_rfl)
  have hSo1 := sound_add hSo0 hin0 (okref09_Ints_0 hSo0 hK href09_Ints_0)
  exact tell_top (X := X) (Y := (addLp X 12 4 (Fref09_Ints_0 lref09_Ints_0))) rfl rfl hSo1 hK ((topref09_Ints K lref09_Ints_0 a0n a0 b1n b1).trans h)

/-! 19: escheat/search.small -/
inductive Ssearch_small_0 where
  | s0 (t9 : Int) (t10 : Int) (obj0 : List AV)

inductive Osearch_small_0 where
  | x0 (obj0 : List AV)

def Osearch_small_0.k {β : Type} (o : Osearch_small_0) (c0 : (List AV) → Option β) : Option β := match o with
  | .x0 obj0 => c0 obj0

def Esearch_small_0 : Ssearch_small_0 → Env
  | .s0 t9 t10 obj0 => [.dead, .dead, .dead, (.own 0 0 0 none), .dead, .dead, .dead, .dead, (.own 0 0 0 none), (.v (.int .i64 t9)), (.v (.int .i64 t10)), .dead, .dead, .dead, .dead, .dead, .dead, .dead, .dead, .dead, .dead, .dead, .dead, .dead, .dead, .dead, .dead, .dead, .dead, .dead]

def Hsearch_small_0 : Ssearch_small_0 → Heap
  | .s0 t9 t10 obj0 => [⟨obj0, 0, 0, true, false, 5, 1, none⟩]

def Tsearch_small_0 {β : Type} (k : Ex → Env → Heap → Option β) (o : Osearch_small_0) : Option β := Osearch_small_0.k o (fun obj0 => k (.exit 0) [.dead, .dead, .dead, (.own 0 0 0 none), .dead, .dead, .dead, .dead, .dead, .dead, .dead, .dead, .dead, .dead, .dead, .dead, .dead, .dead, .dead, .dead, .dead, .dead, .dead, .dead, .dead, .dead, .dead, .dead, .dead, .dead] [⟨obj0, 0, 0, true, false, 5, 1, none⟩])

def Fsearch_small_0 (lsearch_small_0 : Ssearch_small_0 → Option Osearch_small_0) : LoopF := ⟨fun e h k => match Nat.beq e.length 30 with
  | true => (match e.getD 3 .dead, e.getD 8 .dead, e.getD 9 .dead, e.getD 10 .dead, h with
    | (.own 0 0 0 none), (.own 0 0 0 none), (.v (.int .i64 t9)), (.v (.int .i64 t10)), [⟨obj0, 0, 0, true, false, 5, 1, none⟩] => optK (lsearch_small_0 (.s0 t9 t10 obj0)) (Tsearch_small_0 k)
    | _, _, _, _, _ => none)
  | false => none⟩

def clsearch_small_0 : List Tmp := [0, 1, 2, 4, 5, 6, 7, 11, 12, 13, 14, 15, 16, 17, 18, 19, 20, 21, 22, 23, 24, 25, 26, 27, 28, 29]
def closearch_small_0 : List Tmp := [0, 1, 2, 4, 5, 6, 7, 8, 9, 10, 11, 12, 13, 14, 15, 16, 17, 18, 19, 20, 21, 22, 23, 24, 25, 26, 27, 28, 29]

noncomputable def Rsearch_small_0 {β : Type} (K : PureK) (d : Osearch_small_0 → Option β) (r : Ssearch_small_0 → Option β) : Ssearch_small_0 → Option β
  | .s0 t9 t10 obj0 =>
    br (decide (t10 < t9))
      (br (decide (0 ≤ t10))
        (br (decide (t10 < ((obj0.length : Nat) : Int)))
          (optK (obj0[0 + t10.toNat]?) fun wv1 =>
          Ab.asInt wv1 .u8 fun wn2 =>
          optK (br (decide (wn2 ≥ 65))
              (some (bv (decide (wn2 ≤ 90))))
              (some (bv false))) fun wv3 =>
          Ab.asBool wv3 fun wb4 =>
          br wb4
            (br (decide (0 ≤ t10))
              (br (decide (t10 < ((obj0.length : Nat) : Int)))
                (r (.s0 t9 (w64 (t10 + 1)) (obj0.set (0 + t10.toNat) (uv (w8 (w8 (wn2 + 97) - 65))))))
                (none))
              (none))
            (r (.s0 t9 (w64 (t10 + 1)) obj0)))
          (none))
        (none))
      (d (.x0 obj0))
theorem roundsearch_small_0 (K : PureK) {β : Type} (r : Env → Heap → Option β) (k : Ex → Env → Heap → Option β) (s : Ssearch_small_0) : tellOne X K 0 19 0 [(1, 1, 0), (2, 1, 0), (3, 1, 0)] 1 clsearch_small_0 closearch_small_0 r k (Esearch_small_0 s) (Hsearch_small_0 s) = Rsearch_small_0 K (Tsearch_small_0 k) (fun s => r (Esearch_small_0 s) (Hsearch_small_0 s)) s := by
  cases s <;> kernel_rfl
theorem Osearch_small_0.bind_k {β γ : Type} (o : Osearch_small_0) (c0 : (List AV) → Option β) (φ : β → Option γ) : (Osearch_small_0.k o c0).bind φ = Osearch_small_0.k o (fun obj0 => (c0 obj0).bind φ) := by cases o <;> rfl
theorem natsearch_small_0 (K : PureK) {β γ : Type} (φ : β → Option γ) (d : Osearch_small_0 → Option β) (r : Ssearch_small_0 → Option β) (s : Ssearch_small_0) : Rsearch_small_0 K (fun o => (d o).bind φ) (fun s => (r s).bind φ) s = (Rsearch_small_0 K d r s).bind φ := by
  cases s <;> simp only [Rsearch_small_0, bind_optK, bind_br, bind_asInt, bind_asBool, bind_asStr, bind_asLst, bind_asAgg, bind_asTup, bind_asBig, bind_asErr, bind_none]
theorem outsearch_small_0 (o : Osearch_small_0) : ∃ x e' h', ∀ {β : Type} (k : Ex → Env → Heap → Option β), Tsearch_small_0 k o = k x e' h' := by cases o <;> exact ⟨_, _, _, fun _ => rfl⟩
theorem oksearch_small_0 {K : PureK} (hX : Sound X) (hK : KOk X K) {lsearch_small_0 : Ssearch_small_0 → Option Osearch_small_0} (hl : ∀ s o, lsearch_small_0 s = some o → ∃ m, fuelRec (Rsearch_small_0 K some) m s = some o) (β : Type) (e : Env) (h : Heap) (k : Ex → Env → Heap → Option β) (r : β) (hr : (Fsearch_small_0 lsearch_small_0).run e h k = some r) : ∃ x e' h', k x e' h' = some r ∧ CodeAt X (.loop (loopBody (X).P 19 0)) e h x e' h' := by
  obtain ⟨fn, c, hin⟩ := loopIn_of (X := X) (f := 19) (i := 0) (key := 3) (by kernel_rfl)
  simp only [Fsearch_small_0] at hr
  split at hr
  · rename_i hlen
    have hlen := Nat.eq_of_beq_eq_true hlen
    split at hr
    · rename_i q3 q8 q9 q10
      obtain ⟨o, ho, hr⟩ := optK_some hr
      refine tell_ok hX (KOk.congr (X := X) (Y := X) rfl rfl hK) hin (E := Esearch_small_0) (H := Hsearch_small_0) (R := fun d r => Rsearch_small_0 K d r) (T := Tsearch_small_0) (ts := [(1, 1, 0), (2, 1, 0), (3, 1, 0)]) (len := 1) (cl := clsearch_small_0) (clo := closearch_small_0) (roundsearch_small_0 K) (natsearch_small_0 K) outsearch_small_0 (hl _ _ ho) (cl0 := clsearch_small_0) (ts0 := []) ?_ rfl (by kernel_rfl) (by kernel_rfl) hr
      rw [clear_lit e 30 hlen, show clearEnv clsearch_small_0 ((List.range 30).map fun i => e.getD i .dead) = [.dead, .dead, .dead, e.getD 3 .dead, .dead, .dead, .dead, .dead, e.getD 8 .dead, e.getD 9 .dead, e.getD 10 .dead, .dead, .dead, .dead, .dead, .dead, .dead, .dead, .dead, .dead, .dead, .dead, .dead, .dead, .dead, .dead, .dead, .dead, .dead, .dead] from by kernel_rfl]; rw [q3, q8, q9, q10]
      kernel_rfl
    · cases hr
  · cases hr
noncomputable def Rsearch_small (K : PureK) (lsearch_small_0 : Ssearch_small_0 → Option Osearch_small_0) (s0 : ByteArray) : Option AV :=
  optK (lsearch_small_0 (Ssearch_small_0.s0 ((((bytesRows s0).length : Nat) : Int)) 0 (bytesRows s0))) fun wo1 => Osearch_small_0.k wo1 (fun (obj0_2 : List AV) =>
    optK (rowsBytes obj0_2) fun wv3 =>
    some (sv ({ data := wv3.toArray } : ByteArray)))
theorem topsearch_small (K : PureK) (lsearch_small_0 : Ssearch_small_0 → Option Osearch_small_0) (s0 : ByteArray) : topK (addLp X 19 3 (Fsearch_small_0 lsearch_small_0)) K 0 f_search_small [(.v (.string s0))] = Rsearch_small K lsearch_small_0 s0 := by kernel_rfl
theorem pcsearch_small {K : PureK} (hK : KOk X K) {lsearch_small_0 : Ssearch_small_0 → Option Osearch_small_0} (hsearch_small_0 : ∀ s o, lsearch_small_0 s = some o → ∃ m, fuelRec (Rsearch_small_0 K some) m s = some o) {s0 : ByteArray} {v : AV} (h : Rsearch_small K lsearch_small_0 s0 = some v) : PureCall X f_search_small [(.v (.string s0))] v := by
  have hSo0 := soundX
  obtain ⟨_, _, hin0⟩ := loopIn_of (X := X) (f := 19) (i := 0) (key := 3) (by kernel_rfl)
  have hSo1 := sound_add hSo0 hin0 (oksearch_small_0 hSo0 hK hsearch_small_0)
  exact tell_top (X := X) (Y := (addLp X 19 3 (Fsearch_small_0 lsearch_small_0))) rfl rfl hSo1 hK ((topsearch_small K lsearch_small_0 s0).trans h)

/-! 20: escheat/search.may -/
inductive Ssearch_may_0 where
  | s0 (at1 : Int) (links5 : Int) (sets6 : Int) (t60_0 : Int) (t60_1 : Int) (t61 : Int) (obj0_0_0 : Int) (obj0_0_1 : ByteArray) (obj0_0_2 : ByteArray) (obj0_0_3 : Int) (obj0_0_4n : Bool) (obj0_0_4 : List AV) (obj0_0_5 : Int) (obj0_0_6 : Int)

inductive Osearch_may_0 where
  | x0 (t4 : Bool) (sets6 : Int) (obj0_0_0 : Int) (obj0_0_1 : ByteArray) (obj0_0_2 : ByteArray) (obj0_0_3 : Int) (obj0_0_4n : Bool) (obj0_0_4 : List AV) (obj0_0_5 : Int) (obj0_0_6 : Int)
  | x1 (sets6 : Int) (obj0_0_0 : Int) (obj0_0_1 : ByteArray) (obj0_0_2 : ByteArray) (obj0_0_3 : Int) (obj0_0_4n : Bool) (obj0_0_4 : List AV) (obj0_0_5 : Int) (obj0_0_6 : Int)

def Osearch_may_0.k {β : Type} (o : Osearch_may_0) (c0 : Bool → Int → Int → ByteArray → ByteArray → Int → Bool → (List AV) → Int → Int → Option β) (c1 : Int → Int → ByteArray → ByteArray → Int → Bool → (List AV) → Int → Int → Option β) : Option β := match o with
  | .x0 t4 sets6 obj0_0_0 obj0_0_1 obj0_0_2 obj0_0_3 obj0_0_4n obj0_0_4 obj0_0_5 obj0_0_6 => c0 t4 sets6 obj0_0_0 obj0_0_1 obj0_0_2 obj0_0_3 obj0_0_4n obj0_0_4 obj0_0_5 obj0_0_6
  | .x1 sets6 obj0_0_0 obj0_0_1 obj0_0_2 obj0_0_3 obj0_0_4n obj0_0_4 obj0_0_5 obj0_0_6 => c1 sets6 obj0_0_0 obj0_0_1 obj0_0_2 obj0_0_3 obj0_0_4n obj0_0_4 obj0_0_5 obj0_0_6

def Esearch_may_0 : Ssearch_may_0 → Env
  | .s0 at1 links5 sets6 t60_0 t60_1 t61 obj0_0_0 obj0_0_1 obj0_0_2 obj0_0_3 obj0_0_4n obj0_0_4 obj0_0_5 obj0_0_6 => [.dead, (.v (.int .i64 at1)), (.ptr 0 0 0 0), .dead, .dead, (.v (.int .i64 links5)), (.v (.int .i64 sets6)), .dead, .dead, .dead, .dead, .dead, .dead, .dead, .dead, .dead, .dead, .dead, .dead, .dead, .dead, .dead, .dead, .dead, .dead, .dead, .dead, .dead, .dead, .dead, .dead, .dead, .dead, .dead, .dead, .dead, .dead, .dead, .dead, .dead, .dead, .dead, .dead, .dead, .dead, .dead, .dead, .dead, .dead, .dead, .dead, .dead, .dead, .dead, .dead, .dead, .dead, .dead, .dead, .dead, (.agg [(.v (.int .i64 t60_0)), (.v (.int .i64 t60_1))]), (.v (.int .i64 t61)), .dead, .dead, .dead, .dead, .dead, .dead, .dead, .dead, .dead, .dead, .dead, .dead, .dead, .dead, .dead, .dead, .dead, .dead, .dead, .dead, .dead, .dead, .dead, .dead, .dead, .dead, .dead, .dead, .dead, .dead, .dead, .dead, .dead, .dead]

def Hsearch_may_0 : Ssearch_may_0 → Heap
  | .s0 at1 links5 sets6 t60_0 t60_1 t61 obj0_0_0 obj0_0_1 obj0_0_2 obj0_0_3 obj0_0_4n obj0_0_4 obj0_0_5 obj0_0_6 => [⟨[(.agg [(.v (.int .i64 obj0_0_0)), (.v (.string obj0_0_1)), (.v (.string obj0_0_2)), (.v (.int .i64 obj0_0_3)), (.lst 2 obj0_0_4n obj0_0_4), (.v (.int .i64 obj0_0_5)), (.v (.int .i64 obj0_0_6))])], 0, 0, true, true, 24, 7, none⟩]

def Tsearch_may_0 {β : Type} (k : Ex → Env → Heap → Option β) (o : Osearch_may_0) : Option β := Osearch_may_0.k o (fun t4 sets6 obj0_0_0 obj0_0_1 obj0_0_2 obj0_0_3 obj0_0_4n obj0_0_4 obj0_0_5 obj0_0_6 => k .ret [.dead, .dead, (.ptr 0 0 0 0), .dead, (.v (.bool t4)), .dead, (.v (.int .i64 sets6)), .dead, .dead, .dead, .dead, .dead, .dead, .dead, .dead, .dead, .dead, .dead, .dead, .dead, .dead, .dead, .dead, .dead, .dead, .dead, .dead, .dead, .dead, .dead, .dead, .dead, .dead, .dead, .dead, .dead, .dead, .dead, .dead, .dead, .dead, .dead, .dead, .dead, .dead, .dead, .dead, .dead, .dead, .dead, .dead, .dead, .dead, .dead, .dead, .dead, .dead, .dead, .dead, .dead, .dead, .dead, .dead, .dead, .dead, .dead, .dead, .dead, .dead, .dead, .dead, .dead, .dead, .dead, .dead, .dead, .dead, .dead, .dead, .dead, .dead, .dead, .dead, .dead, .dead, .dead, .dead, .dead, .dead, .dead, .dead, .dead, .dead, .dead, .dead, .dead] [⟨[(.agg [(.v (.int .i64 obj0_0_0)), (.v (.string obj0_0_1)), (.v (.string obj0_0_2)), (.v (.int .i64 obj0_0_3)), (.lst 2 obj0_0_4n obj0_0_4), (.v (.int .i64 obj0_0_5)), (.v (.int .i64 obj0_0_6))])], 0, 0, true, true, 24, 7, none⟩]) (fun sets6 obj0_0_0 obj0_0_1 obj0_0_2 obj0_0_3 obj0_0_4n obj0_0_4 obj0_0_5 obj0_0_6 => k (.exit 1) [.dead, .dead, (.ptr 0 0 0 0), .dead, .dead, .dead, (.v (.int .i64 sets6)), .dead, .dead, .dead, .dead, .dead, .dead, .dead, .dead, .dead, .dead, .dead, .dead, .dead, .dead, .dead, .dead, .dead, .dead, .dead, .dead, .dead, .dead, .dead, .dead, .dead, .dead, .dead, .dead, .dead, .dead, .dead, .dead, .dead, .dead, .dead, .dead, .dead, .dead, .dead, .dead, .dead, .dead, .dead, .dead, .dead, .dead, .dead, .dead, .dead, .dead, .dead, .dead, .dead, .dead, .dead, .dead, .dead, .dead, .dead, .dead, .dead, .dead, .dead, .dead, .dead, .dead, .dead, .dead, .dead, .dead, .dead, .dead, .dead, .dead, .dead, .dead, .dead, .dead, .dead, .dead, .dead, .dead, .dead, .dead, .dead, .dead, .dead, .dead, .dead] [⟨[(.agg [(.v (.int .i64 obj0_0_0)), (.v (.string obj0_0_1)), (.v (.string obj0_0_2)), (.v (.int .i64 obj0_0_3)), (.lst 2 obj0_0_4n obj0_0_4), (.v (.int .i64 obj0_0_5)), (.v (.int .i64 obj0_0_6))])], 0, 0, true, true, 24, 7, none⟩])

def Fsearch_may_0 (lsearch_may_0 : Ssearch_may_0 → Option Osearch_may_0) : LoopF := ⟨fun e h k => match Nat.beq e.length 96 with
  | true => (match e.getD 1 .dead, e.getD 2 .dead, e.getD 5 .dead, e.getD 6 .dead, e.getD 60 .dead, e.getD 61 .dead, h with
    | (.v (.int .i64 at1)), (.ptr 0 0 0 0), (.v (.int .i64 links5)), (.v (.int .i64 sets6)), (.agg [(.v (.int .i64 t60_0)), (.v (.int .i64 t60_1))]), (.v (.int .i64 t61)), [⟨[(.agg [(.v (.int .i64 obj0_0_0)), (.v (.string obj0_0_1)), (.v (.string obj0_0_2)), (.v (.int .i64 obj0_0_3)), (.lst 2 obj0_0_4n obj0_0_4), (.v (.int .i64 obj0_0_5)), (.v (.int .i64 obj0_0_6))])], 0, 0, true, true, 24, 7, none⟩] => optK (lsearch_may_0 (.s0 at1 links5 sets6 t60_0 t60_1 t61 obj0_0_0 obj0_0_1 obj0_0_2 obj0_0_3 obj0_0_4n obj0_0_4 obj0_0_5 obj0_0_6)) (Tsearch_may_0 k)
    | _, _, _, _, _, _, _ => none)
  | false => none⟩

def clsearch_may_0 : List Tmp := [0, 3, 4, 7, 8, 9, 10, 11, 12, 13, 14, 15, 16, 17, 18, 19, 20, 21, 22, 23, 24, 25, 26, 27, 28, 29, 30, 31, 32, 33, 34, 35, 36, 37, 38, 39, 40, 41, 42, 43, 44, 45, 46, 47, 48, 49, 50, 51, 52, 53, 54, 55, 56, 57, 58, 59, 62, 63, 64, 65, 66, 67, 68, 69, 70, 71, 72, 73, 74, 75, 76, 77, 78, 79, 80, 81, 82, 83, 84, 85, 86, 87, 88, 89, 90, 91, 92, 93, 94, 95]
def closearch_may_0 : List Tmp := [0, 1, 3, 5, 7, 8, 9, 10, 11, 12, 13, 14, 15, 16, 17, 18, 19, 20, 21, 22, 23, 24, 25, 26, 27, 28, 29, 30, 31, 32, 33, 34, 35, 36, 37, 38, 39, 40, 41, 42, 43, 44, 45, 46, 47, 48, 49, 50, 51, 52, 53, 54, 55, 56, 57, 58, 59, 60, 61, 62, 63, 64, 65, 66, 67, 68, 69, 70, 71, 72, 73, 74, 75, 76, 77, 78, 79, 80, 81, 82, 83, 84, 85, 86, 87, 88, 89, 90, 91, 92, 93, 94, 95]

noncomputable def Rsearch_may_0 {β : Type} (K : PureK) (d : Osearch_may_0 → Option β) (r : Ssearch_may_0 → Option β) : Ssearch_may_0 → Option β
  | .s0 at1 links5 sets6 t60_0 t60_1 t61 obj0_0_0 obj0_0_1 obj0_0_2 obj0_0_3 obj0_0_4n obj0_0_4 obj0_0_5 obj0_0_6 =>
    br (decide (t61 < 2))
      (br (decide (0 ≤ t61))
        (br (decide (t61 < 2))
          (optK ([iv t60_0, iv t60_1][t61.toNat * 1]?) fun wv1 =>
          Ab.asInt wv1 .i64 fun wn2 =>
          optK (br (decide (wn2 < 0))
              (some (bv true))
              (br (decide (t61 < links5))
                (br (decide (wn2 ≥ at1))
                  (some (bv true))
                  (br (decide (t61 ≥ links5))
                    (some (bv (wn2 != 0)))
                    (some (bv false))))
                (br (decide (t61 ≥ links5))
                  (some (bv (wn2 != 0)))
                  (some (bv false))))) fun wv3 =>
          Ab.asBool wv3 fun wb4 =>
          br wb4
            (d (.x0 false sets6 obj0_0_0 obj0_0_1 obj0_0_2 obj0_0_3 obj0_0_4n obj0_0_4 obj0_0_5 obj0_0_6))
            (r (.s0 at1 links5 sets6 t60_0 t60_1 (w64 (t61 + 1)) obj0_0_0 obj0_0_1 obj0_0_2 obj0_0_3 obj0_0_4n obj0_0_4 obj0_0_5 obj0_0_6)))
          (none))
        (none))
      (d (.x1 sets6 obj0_0_0 obj0_0_1 obj0_0_2 obj0_0_3 obj0_0_4n obj0_0_4 obj0_0_5 obj0_0_6))
theorem roundsearch_may_0 (K : PureK) {β : Type} (r : Env → Heap → Option β) (k : Ex → Env → Heap → Option β) (s : Ssearch_may_0) : tellOne X K 0 20 0 [(1, 1, 0), (2, 1, 0), (3, 1, 0)] 1 clsearch_may_0 closearch_may_0 r k (Esearch_may_0 s) (Hsearch_may_0 s) = Rsearch_may_0 K (Tsearch_may_0 k) (fun s => r (Esearch_may_0 s) (Hsearch_may_0 s)) s := by
  cases s <;> kernel_rfl
theorem Osearch_may_0.bind_k {β γ : Type} (o : Osearch_may_0) (c0 : Bool → Int → Int → ByteArray → ByteArray → Int → Bool → (List AV) → Int → Int → Option β) (c1 : Int → Int → ByteArray → ByteArray → Int → Bool → (List AV) → Int → Int → Option β) (φ : β → Option γ) : (Osearch_may_0.k o c0 c1).bind φ = Osearch_may_0.k o (fun t4 sets6 obj0_0_0 obj0_0_1 obj0_0_2 obj0_0_3 obj0_0_4n obj0_0_4 obj0_0_5 obj0_0_6 => (c0 t4 sets6 obj0_0_0 obj0_0_1 obj0_0_2 obj0_0_3 obj0_0_4n obj0_0_4 obj0_0_5 obj0_0_6).bind φ) (fun sets6 obj0_0_0 obj0_0_1 obj0_0_2 obj0_0_3 obj0_0_4n obj0_0_4 obj0_0_5 obj0_0_6 => (c1 sets6 obj0_0_0 obj0_0_1 obj0_0_2 obj0_0_3 obj0_0_4n obj0_0_4 obj0_0_5 obj0_0_6).bind φ) := by cases o <;> rfl
theorem natsearch_may_0 (K : PureK) {β γ : Type} (φ : β → Option γ) (d : Osearch_may_0 → Option β) (r : Ssearch_may_0 → Option β) (s : Ssearch_may_0) : Rsearch_may_0 K (fun o => (d o).bind φ) (fun s => (r s).bind φ) s = (Rsearch_may_0 K d r s).bind φ := by
  cases s <;> simp only [Rsearch_may_0, bind_optK, bind_br, bind_asInt, bind_asBool, bind_asStr, bind_asLst, bind_asAgg, bind_asTup, bind_asBig, bind_asErr, bind_none]
theorem outsearch_may_0 (o : Osearch_may_0) : ∃ x e' h', ∀ {β : Type} (k : Ex → Env → Heap → Option β), Tsearch_may_0 k o = k x e' h' := by cases o <;> exact ⟨_, _, _, fun _ => rfl⟩
theorem oksearch_may_0 {K : PureK} (hX : Sound X) (hK : KOk X K) {lsearch_may_0 : Ssearch_may_0 → Option Osearch_may_0} (hl : ∀ s o, lsearch_may_0 s = some o → ∃ m, fuelRec (Rsearch_may_0 K some) m s = some o) (β : Type) (e : Env) (h : Heap) (k : Ex → Env → Heap → Option β) (r : β) (hr : (Fsearch_may_0 lsearch_may_0).run e h k = some r) : ∃ x e' h', k x e' h' = some r ∧ CodeAt X (.loop (loopBody (X).P 20 0)) e h x e' h' := by
  obtain ⟨fn, c, hin⟩ := loopIn_of (X := X) (f := 20) (i := 0) (key := 18) (by kernel_rfl)
  simp only [Fsearch_may_0] at hr
  split at hr
  · rename_i hlen
    have hlen := Nat.eq_of_beq_eq_true hlen
    split at hr
    · rename_i q1 q2 q5 q6 q60 q61
      obtain ⟨o, ho, hr⟩ := optK_some hr
      refine tell_ok hX (KOk.congr (X := X) (Y := X) rfl rfl hK) hin (E := Esearch_may_0) (H := Hsearch_may_0) (R := fun d r => Rsearch_may_0 K d r) (T := Tsearch_may_0) (ts := [(1, 1, 0), (2, 1, 0), (3, 1, 0)]) (len := 1) (cl := clsearch_may_0) (clo := closearch_may_0) (roundsearch_may_0 K) (natsearch_may_0 K) outsearch_may_0 (hl _ _ ho) (cl0 := clsearch_may_0) (ts0 := []) ?_ rfl (by kernel_rfl) (by kernel_rfl) hr
      rw [clear_lit e 96 hlen, show clearEnv clsearch_may_0 ((List.range 96).map fun i => e.getD i .dead) = [.dead, e.getD 1 .dead, e.getD 2 .dead, .dead, .dead, e.getD 5 .dead, e.getD 6 .dead, .dead, .dead, .dead, .dead, .dead, .dead, .dead, .dead, .dead, .dead, .dead, .dead, .dead, .dead, .dead, .dead, .dead, .dead, .dead, .dead, .dead, .dead, .dead, .dead, .dead, .dead, .dead, .dead, .dead, .dead, .dead, .dead, .dead, .dead, .dead, .dead, .dead, .dead, .dead, .dead, .dead, .dead, .dead, .dead, .dead, .dead, .dead, .dead, .dead, .dead, .dead, .dead, .dead, e.getD 60 .dead, e.getD 61 .dead, .dead, .dead, .dead, .dead, .dead, .dead, .dead, .dead, .dead, .dead, .dead, .dead, .dead, .dead, .dead, .dead, .dead, .dead, .dead, .dead, .dead, .dead, .dead, .dead, .dead, .dead, .dead, .dead, .dead, .dead, .dead, .dead, .dead, .dead] from by kernel_rfl]; rw [q1, q2, q5, q6, q60, q61]
      kernel_rfl
    · cases hr
  · cases hr
noncomputable def Rsearch_may (K : PureK) (lsearch_may_0 : Ssearch_may_0 → Option Osearch_may_0) (k0_0 : Int) (k0_1 : ByteArray) (k0_2 : ByteArray) (k0_3 : Int) (k0_4n : Bool) (k0_4 : List AV) (k0_5 : Int) (k0_6 : Int) (at1 : Int) : Option AV :=
  optK (br (decide (k0_0 < 0))
        (some (bv true))
        (br (decide (k0_0 > 18))
          (some (bv true))
          (br (decide (((k0_1.size : Nat) : Int) > 200))
            (some (bv true))
            (br (decide (((k0_2.size : Nat) : Int) > 200))
              (some (bv true))
              (br (decide (k0_3 < 0))
                (some (bv true))
                (some (bv (decide (k0_3 > 1099511627776))))))))) fun wv5 =>
    Ab.asBool wv5 fun wb6 =>
    br wb6
      (some (bv false))
      (br (k0_0 == 1)
        (br (k0_0 == 1)
          (optK (K f_flag_Right [iv k0_3]) fun wv7 =>
          Ab.asBool wv7 fun wb8 =>
          br (!wb8)
            (some (bv false))
            (optK (lsearch_may_0 (Ssearch_may_0.s0 at1 0 0 k0_5 k0_6 0 k0_0 k0_1 k0_2 k0_3 k0_4n k0_4 k0_5 k0_6)) fun wo9 => Osearch_may_0.k wo9
              (fun (t4_10 : Bool) (sets6_10 : Int) (obj0_0_0_10 : Int) (obj0_0_1_10 : ByteArray) (obj0_0_2_10 : ByteArray) (obj0_0_3_10 : Int) (obj0_0_4n_10 : Bool) (obj0_0_4_10 : List AV) (obj0_0_5_10 : Int) (obj0_0_6_10 : Int) => some (bv t4_10))
              (fun (sets6_11 : Int) (obj0_0_0_11 : Int) (obj0_0_1_11 : ByteArray) (obj0_0_2_11 : ByteArray) (obj0_0_3_11 : Int) (obj0_0_4n_11 : Bool) (obj0_0_4_11 : List AV) (obj0_0_5_11 : Int) (obj0_0_6_11 : Int) => br (sets6_11 == 0)
                (some (bv (((obj0_0_4_11.length : Nat) : Int) == 0)))
                (optK (K f_uids_Right [AV.lst 2 obj0_0_4n_11 obj0_0_4_11]) fun wv12 =>
                Ab.asBool wv12 fun wb13 =>
                some (bv wb13)))))
          (br (k0_0 == 14)
            (br (k0_0 == 14)
              (optK (lsearch_may_0 (Ssearch_may_0.s0 at1 0 1 k0_5 k0_6 0 k0_0 k0_1 k0_2 k0_3 k0_4n k0_4 k0_5 k0_6)) fun wo14 => Osearch_may_0.k wo14
                (fun (t4_15 : Bool) (sets6_15 : Int) (obj0_0_0_15 : Int) (obj0_0_1_15 : ByteArray) (obj0_0_2_15 : ByteArray) (obj0_0_3_15 : Int) (obj0_0_4n_15 : Bool) (obj0_0_4_15 : List AV) (obj0_0_5_15 : Int) (obj0_0_6_15 : Int) => some (bv t4_15))
                (fun (sets6_16 : Int) (obj0_0_0_16 : Int) (obj0_0_1_16 : ByteArray) (obj0_0_2_16 : ByteArray) (obj0_0_3_16 : Int) (obj0_0_4n_16 : Bool) (obj0_0_4_16 : List AV) (obj0_0_5_16 : Int) (obj0_0_6_16 : Int) => br (sets6_16 == 0)
                  (some (bv (((obj0_0_4_16.length : Nat) : Int) == 0)))
                  (optK (K f_uids_Right [AV.lst 2 obj0_0_4n_16 obj0_0_4_16]) fun wv17 =>
                  Ab.asBool wv17 fun wb18 =>
                  some (bv wb18))))
              (br (k0_0 == 16)
                (optK (lsearch_may_0 (Ssearch_may_0.s0 at1 1 0 k0_5 k0_6 0 k0_0 k0_1 k0_2 k0_3 k0_4n k0_4 k0_5 k0_6)) fun wo19 => Osearch_may_0.k wo19
                  (fun (t4_20 : Bool) (sets6_20 : Int) (obj0_0_0_20 : Int) (obj0_0_1_20 : ByteArray) (obj0_0_2_20 : ByteArray) (obj0_0_3_20 : Int) (obj0_0_4n_20 : Bool) (obj0_0_4_20 : List AV) (obj0_0_5_20 : Int) (obj0_0_6_20 : Int) => some (bv t4_20))
                  (fun (sets6_21 : Int) (obj0_0_0_21 : Int) (obj0_0_1_21 : ByteArray) (obj0_0_2_21 : ByteArray) (obj0_0_3_21 : Int) (obj0_0_4n_21 : Bool) (obj0_0_4_21 : List AV) (obj0_0_5_21 : Int) (obj0_0_6_21 : Int) => br (sets6_21 == 0)
                    (some (bv (((obj0_0_4_21.length : Nat) : Int) == 0)))
                    (optK (K f_uids_Right [AV.lst 2 obj0_0_4n_21 obj0_0_4_21]) fun wv22 =>
                    Ab.asBool wv22 fun wb23 =>
                    some (bv wb23))))
                (br (k0_0 == 17)
                  (br (k0_0 == 17)
                    (optK (lsearch_may_0 (Ssearch_may_0.s0 at1 2 0 k0_5 k0_6 0 k0_0 k0_1 k0_2 k0_3 k0_4n k0_4 k0_5 k0_6)) fun wo24 => Osearch_may_0.k wo24
                      (fun (t4_25 : Bool) (sets6_25 : Int) (obj0_0_0_25 : Int) (obj0_0_1_25 : ByteArray) (obj0_0_2_25 : ByteArray) (obj0_0_3_25 : Int) (obj0_0_4n_25 : Bool) (obj0_0_4_25 : List AV) (obj0_0_5_25 : Int) (obj0_0_6_25 : Int) => some (bv t4_25))
                      (fun (sets6_26 : Int) (obj0_0_0_26 : Int) (obj0_0_1_26 : ByteArray) (obj0_0_2_26 : ByteArray) (obj0_0_3_26 : Int) (obj0_0_4n_26 : Bool) (obj0_0_4_26 : List AV) (obj0_0_5_26 : Int) (obj0_0_6_26 : Int) => br (sets6_26 == 0)
                        (some (bv (((obj0_0_4_26.length : Nat) : Int) == 0)))
                        (optK (K f_uids_Right [AV.lst 2 obj0_0_4n_26 obj0_0_4_26]) fun wv27 =>
                        Ab.asBool wv27 fun wb28 =>
                        some (bv wb28))))
                    (optK (lsearch_may_0 (Ssearch_may_0.s0 at1 0 0 k0_5 k0_6 0 k0_0 k0_1 k0_2 k0_3 k0_4n k0_4 k0_5 k0_6)) fun wo29 => Osearch_may_0.k wo29
                      (fun (t4_30 : Bool) (sets6_30 : Int) (obj0_0_0_30 : Int) (obj0_0_1_30 : ByteArray) (obj0_0_2_30 : ByteArray) (obj0_0_3_30 : Int) (obj0_0_4n_30 : Bool) (obj0_0_4_30 : List AV) (obj0_0_5_30 : Int) (obj0_0_6_30 : Int) => some (bv t4_30))
                      (fun (sets6_31 : Int) (obj0_0_0_31 : Int) (obj0_0_1_31 : ByteArray) (obj0_0_2_31 : ByteArray) (obj0_0_3_31 : Int) (obj0_0_4n_31 : Bool) (obj0_0_4_31 : List AV) (obj0_0_5_31 : Int) (obj0_0_6_31 : Int) => br (sets6_31 == 0)
                        (some (bv (((obj0_0_4_31.length : Nat) : Int) == 0)))
                        (optK (K f_uids_Right [AV.lst 2 obj0_0_4n_31 obj0_0_4_31]) fun wv32 =>
                        Ab.asBool wv32 fun wb33 =>
                        some (bv wb33)))))
                  (br (k0_0 == 18)
                    (optK (lsearch_may_0 (Ssearch_may_0.s0 at1 2 0 k0_5 k0_6 0 k0_0 k0_1 k0_2 k0_3 k0_4n k0_4 k0_5 k0_6)) fun wo34 => Osearch_may_0.k wo34
                      (fun (t4_35 : Bool) (sets6_35 : Int) (obj0_0_0_35 : Int) (obj0_0_1_35 : ByteArray) (obj0_0_2_35 : ByteArray) (obj0_0_3_35 : Int) (obj0_0_4n_35 : Bool) (obj0_0_4_35 : List AV) (obj0_0_5_35 : Int) (obj0_0_6_35 : Int) => some (bv t4_35))
                      (fun (sets6_36 : Int) (obj0_0_0_36 : Int) (obj0_0_1_36 : ByteArray) (obj0_0_2_36 : ByteArray) (obj0_0_3_36 : Int) (obj0_0_4n_36 : Bool) (obj0_0_4_36 : List AV) (obj0_0_5_36 : Int) (obj0_0_6_36 : Int) => br (sets6_36 == 0)
                        (some (bv (((obj0_0_4_36.length : Nat) : Int) == 0)))
                        (optK (K f_uids_Right [AV.lst 2 obj0_0_4n_36 obj0_0_4_36]) fun wv37 =>
                        Ab.asBool wv37 fun wb38 =>
                        some (bv wb38))))
                    (optK (lsearch_may_0 (Ssearch_may_0.s0 at1 0 0 k0_5 k0_6 0 k0_0 k0_1 k0_2 k0_3 k0_4n k0_4 k0_5 k0_6)) fun wo39 => Osearch_may_0.k wo39
                      (fun (t4_40 : Bool) (sets6_40 : Int) (obj0_0_0_40 : Int) (obj0_0_1_40 : ByteArray) (obj0_0_2_40 : ByteArray) (obj0_0_3_40 : Int) (obj0_0_4n_40 : Bool) (obj0_0_4_40 : List AV) (obj0_0_5_40 : Int) (obj0_0_6_40 : Int) => some (bv t4_40))
                      (fun (sets6_41 : Int) (obj0_0_0_41 : Int) (obj0_0_1_41 : ByteArray) (obj0_0_2_41 : ByteArray) (obj0_0_3_41 : Int) (obj0_0_4n_41 : Bool) (obj0_0_4_41 : List AV) (obj0_0_5_41 : Int) (obj0_0_6_41 : Int) => br (sets6_41 == 0)
                        (some (bv (((obj0_0_4_41.length : Nat) : Int) == 0)))
                        (optK (K f_uids_Right [AV.lst 2 obj0_0_4n_41 obj0_0_4_41]) fun wv42 =>
                        Ab.asBool wv42 fun wb43 =>
                        some (bv wb43))))))))
            (br (k0_0 == 15)
              (optK (lsearch_may_0 (Ssearch_may_0.s0 at1 0 1 k0_5 k0_6 0 k0_0 k0_1 k0_2 k0_3 k0_4n k0_4 k0_5 k0_6)) fun wo44 => Osearch_may_0.k wo44
                (fun (t4_45 : Bool) (sets6_45 : Int) (obj0_0_0_45 : Int) (obj0_0_1_45 : ByteArray) (obj0_0_2_45 : ByteArray) (obj0_0_3_45 : Int) (obj0_0_4n_45 : Bool) (obj0_0_4_45 : List AV) (obj0_0_5_45 : Int) (obj0_0_6_45 : Int) => some (bv t4_45))
                (fun (sets6_46 : Int) (obj0_0_0_46 : Int) (obj0_0_1_46 : ByteArray) (obj0_0_2_46 : ByteArray) (obj0_0_3_46 : Int) (obj0_0_4n_46 : Bool) (obj0_0_4_46 : List AV) (obj0_0_5_46 : Int) (obj0_0_6_46 : Int) => br (sets6_46 == 0)
                  (some (bv (((obj0_0_4_46.length : Nat) : Int) == 0)))
                  (optK (K f_uids_Right [AV.lst 2 obj0_0_4n_46 obj0_0_4_46]) fun wv47 =>
                  Ab.asBool wv47 fun wb48 =>
                  some (bv wb48))))
              (br (k0_0 == 16)
                (optK (lsearch_may_0 (Ssearch_may_0.s0 at1 1 0 k0_5 k0_6 0 k0_0 k0_1 k0_2 k0_3 k0_4n k0_4 k0_5 k0_6)) fun wo49 => Osearch_may_0.k wo49
                  (fun (t4_50 : Bool) (sets6_50 : Int) (obj0_0_0_50 : Int) (obj0_0_1_50 : ByteArray) (obj0_0_2_50 : ByteArray) (obj0_0_3_50 : Int) (obj0_0_4n_50 : Bool) (obj0_0_4_50 : List AV) (obj0_0_5_50 : Int) (obj0_0_6_50 : Int) => some (bv t4_50))
                  (fun (sets6_51 : Int) (obj0_0_0_51 : Int) (obj0_0_1_51 : ByteArray) (obj0_0_2_51 : ByteArray) (obj0_0_3_51 : Int) (obj0_0_4n_51 : Bool) (obj0_0_4_51 : List AV) (obj0_0_5_51 : Int) (obj0_0_6_51 : Int) => br (sets6_51 == 0)
                    (some (bv (((obj0_0_4_51.length : Nat) : Int) == 0)))
                    (optK (K f_uids_Right [AV.lst 2 obj0_0_4n_51 obj0_0_4_51]) fun wv52 =>
                    Ab.asBool wv52 fun wb53 =>
                    some (bv wb53))))
                (br (k0_0 == 17)
                  (br (k0_0 == 17)
                    (optK (lsearch_may_0 (Ssearch_may_0.s0 at1 2 0 k0_5 k0_6 0 k0_0 k0_1 k0_2 k0_3 k0_4n k0_4 k0_5 k0_6)) fun wo54 => Osearch_may_0.k wo54
                      (fun (t4_55 : Bool) (sets6_55 : Int) (obj0_0_0_55 : Int) (obj0_0_1_55 : ByteArray) (obj0_0_2_55 : ByteArray) (obj0_0_3_55 : Int) (obj0_0_4n_55 : Bool) (obj0_0_4_55 : List AV) (obj0_0_5_55 : Int) (obj0_0_6_55 : Int) => some (bv t4_55))
                      (fun (sets6_56 : Int) (obj0_0_0_56 : Int) (obj0_0_1_56 : ByteArray) (obj0_0_2_56 : ByteArray) (obj0_0_3_56 : Int) (obj0_0_4n_56 : Bool) (obj0_0_4_56 : List AV) (obj0_0_5_56 : Int) (obj0_0_6_56 : Int) => br (sets6_56 == 0)
                        (some (bv (((obj0_0_4_56.length : Nat) : Int) == 0)))
                        (optK (K f_uids_Right [AV.lst 2 obj0_0_4n_56 obj0_0_4_56]) fun wv57 =>
                        Ab.asBool wv57 fun wb58 =>
                        some (bv wb58))))
                    (optK (lsearch_may_0 (Ssearch_may_0.s0 at1 0 0 k0_5 k0_6 0 k0_0 k0_1 k0_2 k0_3 k0_4n k0_4 k0_5 k0_6)) fun wo59 => Osearch_may_0.k wo59
                      (fun (t4_60 : Bool) (sets6_60 : Int) (obj0_0_0_60 : Int) (obj0_0_1_60 : ByteArray) (obj0_0_2_60 : ByteArray) (obj0_0_3_60 : Int) (obj0_0_4n_60 : Bool) (obj0_0_4_60 : List AV) (obj0_0_5_60 : Int) (obj0_0_6_60 : Int) => some (bv t4_60))
                      (fun (sets6_61 : Int) (obj0_0_0_61 : Int) (obj0_0_1_61 : ByteArray) (obj0_0_2_61 : ByteArray) (obj0_0_3_61 : Int) (obj0_0_4n_61 : Bool) (obj0_0_4_61 : List AV) (obj0_0_5_61 : Int) (obj0_0_6_61 : Int) => br (sets6_61 == 0)
                        (some (bv (((obj0_0_4_61.length : Nat) : Int) == 0)))
                        (optK (K f_uids_Right [AV.lst 2 obj0_0_4n_61 obj0_0_4_61]) fun wv62 =>
                        Ab.asBool wv62 fun wb63 =>
                        some (bv wb63)))))
                  (br (k0_0 == 18)
                    (optK (lsearch_may_0 (Ssearch_may_0.s0 at1 2 0 k0_5 k0_6 0 k0_0 k0_1 k0_2 k0_3 k0_4n k0_4 k0_5 k0_6)) fun wo64 => Osearch_may_0.k wo64
                      (fun (t4_65 : Bool) (sets6_65 : Int) (obj0_0_0_65 : Int) (obj0_0_1_65 : ByteArray) (obj0_0_2_65 : ByteArray) (obj0_0_3_65 : Int) (obj0_0_4n_65 : Bool) (obj0_0_4_65 : List AV) (obj0_0_5_65 : Int) (obj0_0_6_65 : Int) => some (bv t4_65))
                      (fun (sets6_66 : Int) (obj0_0_0_66 : Int) (obj0_0_1_66 : ByteArray) (obj0_0_2_66 : ByteArray) (obj0_0_3_66 : Int) (obj0_0_4n_66 : Bool) (obj0_0_4_66 : List AV) (obj0_0_5_66 : Int) (obj0_0_6_66 : Int) => br (sets6_66 == 0)
                        (some (bv (((obj0_0_4_66.length : Nat) : Int) == 0)))
                        (optK (K f_uids_Right [AV.lst 2 obj0_0_4n_66 obj0_0_4_66]) fun wv67 =>
                        Ab.asBool wv67 fun wb68 =>
                        some (bv wb68))))
                    (optK (lsearch_may_0 (Ssearch_may_0.s0 at1 0 0 k0_5 k0_6 0 k0_0 k0_1 k0_2 k0_3 k0_4n k0_4 k0_5 k0_6)) fun wo69 => Osearch_may_0.k wo69
                      (fun (t4_70 : Bool) (sets6_70 : Int) (obj0_0_0_70 : Int) (obj0_0_1_70 : ByteArray) (obj0_0_2_70 : ByteArray) (obj0_0_3_70 : Int) (obj0_0_4n_70 : Bool) (obj0_0_4_70 : List AV) (obj0_0_5_70 : Int) (obj0_0_6_70 : Int) => some (bv t4_70))
                      (fun (sets6_71 : Int) (obj0_0_0_71 : Int) (obj0_0_1_71 : ByteArray) (obj0_0_2_71 : ByteArray) (obj0_0_3_71 : Int) (obj0_0_4n_71 : Bool) (obj0_0_4_71 : List AV) (obj0_0_5_71 : Int) (obj0_0_6_71 : Int) => br (sets6_71 == 0)
                        (some (bv (((obj0_0_4_71.length : Nat) : Int) == 0)))
                        (optK (K f_uids_Right [AV.lst 2 obj0_0_4n_71 obj0_0_4_71]) fun wv72 =>
                        Ab.asBool wv72 fun wb73 =>
                        some (bv wb73))))))))))
        (br (k0_0 == 2)
          (optK (K f_flag_Right [iv k0_3]) fun wv74 =>
          Ab.asBool wv74 fun wb75 =>
          br (!wb75)
            (some (bv false))
            (optK (lsearch_may_0 (Ssearch_may_0.s0 at1 0 0 k0_5 k0_6 0 k0_0 k0_1 k0_2 k0_3 k0_4n k0_4 k0_5 k0_6)) fun wo76 => Osearch_may_0.k wo76
              (fun (t4_77 : Bool) (sets6_77 : Int) (obj0_0_0_77 : Int) (obj0_0_1_77 : ByteArray) (obj0_0_2_77 : ByteArray) (obj0_0_3_77 : Int) (obj0_0_4n_77 : Bool) (obj0_0_4_77 : List AV) (obj0_0_5_77 : Int) (obj0_0_6_77 : Int) => some (bv t4_77))
              (fun (sets6_78 : Int) (obj0_0_0_78 : Int) (obj0_0_1_78 : ByteArray) (obj0_0_2_78 : ByteArray) (obj0_0_3_78 : Int) (obj0_0_4n_78 : Bool) (obj0_0_4_78 : List AV) (obj0_0_5_78 : Int) (obj0_0_6_78 : Int) => br (sets6_78 == 0)
                (some (bv (((obj0_0_4_78.length : Nat) : Int) == 0)))
                (optK (K f_uids_Right [AV.lst 2 obj0_0_4n_78 obj0_0_4_78]) fun wv79 =>
                Ab.asBool wv79 fun wb80 =>
                some (bv wb80)))))
          (br (k0_0 == 14)
            (br (k0_0 == 14)
              (optK (lsearch_may_0 (Ssearch_may_0.s0 at1 0 1 k0_5 k0_6 0 k0_0 k0_1 k0_2 k0_3 k0_4n k0_4 k0_5 k0_6)) fun wo81 => Osearch_may_0.k wo81
                (fun (t4_82 : Bool) (sets6_82 : Int) (obj0_0_0_82 : Int) (obj0_0_1_82 : ByteArray) (obj0_0_2_82 : ByteArray) (obj0_0_3_82 : Int) (obj0_0_4n_82 : Bool) (obj0_0_4_82 : List AV) (obj0_0_5_82 : Int) (obj0_0_6_82 : Int) => some (bv t4_82))
                (fun (sets6_83 : Int) (obj0_0_0_83 : Int) (obj0_0_1_83 : ByteArray) (obj0_0_2_83 : ByteArray) (obj0_0_3_83 : Int) (obj0_0_4n_83 : Bool) (obj0_0_4_83 : List AV) (obj0_0_5_83 : Int) (obj0_0_6_83 : Int) => br (sets6_83 == 0)
                  (some (bv (((obj0_0_4_83.length : Nat) : Int) == 0)))
                  (optK (K f_uids_Right [AV.lst 2 obj0_0_4n_83 obj0_0_4_83]) fun wv84 =>
                  Ab.asBool wv84 fun wb85 =>
                  some (bv wb85))))
              (br (k0_0 == 16)
                (optK (lsearch_may_0 (Ssearch_may_0.s0 at1 1 0 k0_5 k0_6 0 k0_0 k0_1 k0_2 k0_3 k0_4n k0_4 k0_5 k0_6)) fun wo86 => Osearch_may_0.k wo86
                  (fun (t4_87 : Bool) (sets6_87 : Int) (obj0_0_0_87 : Int) (obj0_0_1_87 : ByteArray) (obj0_0_2_87 : ByteArray) (obj0_0_3_87 : Int) (obj0_0_4n_87 : Bool) (obj0_0_4_87 : List AV) (obj0_0_5_87 : Int) (obj0_0_6_87 : Int) => some (bv t4_87))
                  (fun (sets6_88 : Int) (obj0_0_0_88 : Int) (obj0_0_1_88 : ByteArray) (obj0_0_2_88 : ByteArray) (obj0_0_3_88 : Int) (obj0_0_4n_88 : Bool) (obj0_0_4_88 : List AV) (obj0_0_5_88 : Int) (obj0_0_6_88 : Int) => br (sets6_88 == 0)
                    (some (bv (((obj0_0_4_88.length : Nat) : Int) == 0)))
                    (optK (K f_uids_Right [AV.lst 2 obj0_0_4n_88 obj0_0_4_88]) fun wv89 =>
                    Ab.asBool wv89 fun wb90 =>
                    some (bv wb90))))
                (br (k0_0 == 17)
                  (br (k0_0 == 17)
                    (optK (lsearch_may_0 (Ssearch_may_0.s0 at1 2 0 k0_5 k0_6 0 k0_0 k0_1 k0_2 k0_3 k0_4n k0_4 k0_5 k0_6)) fun wo91 => Osearch_may_0.k wo91
                      (fun (t4_92 : Bool) (sets6_92 : Int) (obj0_0_0_92 : Int) (obj0_0_1_92 : ByteArray) (obj0_0_2_92 : ByteArray) (obj0_0_3_92 : Int) (obj0_0_4n_92 : Bool) (obj0_0_4_92 : List AV) (obj0_0_5_92 : Int) (obj0_0_6_92 : Int) => some (bv t4_92))
                      (fun (sets6_93 : Int) (obj0_0_0_93 : Int) (obj0_0_1_93 : ByteArray) (obj0_0_2_93 : ByteArray) (obj0_0_3_93 : Int) (obj0_0_4n_93 : Bool) (obj0_0_4_93 : List AV) (obj0_0_5_93 : Int) (obj0_0_6_93 : Int) => br (sets6_93 == 0)
                        (some (bv (((obj0_0_4_93.length : Nat) : Int) == 0)))
                        (optK (K f_uids_Right [AV.lst 2 obj0_0_4n_93 obj0_0_4_93]) fun wv94 =>
                        Ab.asBool wv94 fun wb95 =>
                        some (bv wb95))))
                    (optK (lsearch_may_0 (Ssearch_may_0.s0 at1 0 0 k0_5 k0_6 0 k0_0 k0_1 k0_2 k0_3 k0_4n k0_4 k0_5 k0_6)) fun wo96 => Osearch_may_0.k wo96
                      (fun (t4_97 : Bool) (sets6_97 : Int) (obj0_0_0_97 : Int) (obj0_0_1_97 : ByteArray) (obj0_0_2_97 : ByteArray) (obj0_0_3_97 : Int) (obj0_0_4n_97 : Bool) (obj0_0_4_97 : List AV) (obj0_0_5_97 : Int) (obj0_0_6_97 : Int) => some (bv t4_97))
                      (fun (sets6_98 : Int) (obj0_0_0_98 : Int) (obj0_0_1_98 : ByteArray) (obj0_0_2_98 : ByteArray) (obj0_0_3_98 : Int) (obj0_0_4n_98 : Bool) (obj0_0_4_98 : List AV) (obj0_0_5_98 : Int) (obj0_0_6_98 : Int) => br (sets6_98 == 0)
                        (some (bv (((obj0_0_4_98.length : Nat) : Int) == 0)))
                        (optK (K f_uids_Right [AV.lst 2 obj0_0_4n_98 obj0_0_4_98]) fun wv99 =>
                        Ab.asBool wv99 fun wb100 =>
                        some (bv wb100)))))
                  (br (k0_0 == 18)
                    (optK (lsearch_may_0 (Ssearch_may_0.s0 at1 2 0 k0_5 k0_6 0 k0_0 k0_1 k0_2 k0_3 k0_4n k0_4 k0_5 k0_6)) fun wo101 => Osearch_may_0.k wo101
                      (fun (t4_102 : Bool) (sets6_102 : Int) (obj0_0_0_102 : Int) (obj0_0_1_102 : ByteArray) (obj0_0_2_102 : ByteArray) (obj0_0_3_102 : Int) (obj0_0_4n_102 : Bool) (obj0_0_4_102 : List AV) (obj0_0_5_102 : Int) (obj0_0_6_102 : Int) => some (bv t4_102))
                      (fun (sets6_103 : Int) (obj0_0_0_103 : Int) (obj0_0_1_103 : ByteArray) (obj0_0_2_103 : ByteArray) (obj0_0_3_103 : Int) (obj0_0_4n_103 : Bool) (obj0_0_4_103 : List AV) (obj0_0_5_103 : Int) (obj0_0_6_103 : Int) => br (sets6_103 == 0)
                        (some (bv (((obj0_0_4_103.length : Nat) : Int) == 0)))
                        (optK (K f_uids_Right [AV.lst 2 obj0_0_4n_103 obj0_0_4_103]) fun wv104 =>
                        Ab.asBool wv104 fun wb105 =>
                        some (bv wb105))))
                    (optK (lsearch_may_0 (Ssearch_may_0.s0 at1 0 0 k0_5 k0_6 0 k0_0 k0_1 k0_2 k0_3 k0_4n k0_4 k0_5 k0_6)) fun wo106 => Osearch_may_0.k wo106
                      (fun (t4_107 : Bool) (sets6_107 : Int) (obj0_0_0_107 : Int) (obj0_0_1_107 : ByteArray) (obj0_0_2_107 : ByteArray) (obj0_0_3_107 : Int) (obj0_0_4n_107 : Bool) (obj0_0_4_107 : List AV) (obj0_0_5_107 : Int) (obj0_0_6_107 : Int) => some (bv t4_107))
                      (fun (sets6_108 : Int) (obj0_0_0_108 : Int) (obj0_0_1_108 : ByteArray) (obj0_0_2_108 : ByteArray) (obj0_0_3_108 : Int) (obj0_0_4n_108 : Bool) (obj0_0_4_108 : List AV) (obj0_0_5_108 : Int) (obj0_0_6_108 : Int) => br (sets6_108 == 0)
                        (some (bv (((obj0_0_4_108.length : Nat) : Int) == 0)))
                        (optK (K f_uids_Right [AV.lst 2 obj0_0_4n_108 obj0_0_4_108]) fun wv109 =>
                        Ab.asBool wv109 fun wb110 =>
                        some (bv wb110))))))))
            (br (k0_0 == 15)
              (optK (lsearch_may_0 (Ssearch_may_0.s0 at1 0 1 k0_5 k0_6 0 k0_0 k0_1 k0_2 k0_3 k0_4n k0_4 k0_5 k0_6)) fun wo111 => Osearch_may_0.k wo111
                (fun (t4_112 : Bool) (sets6_112 : Int) (obj0_0_0_112 : Int) (obj0_0_1_112 : ByteArray) (obj0_0_2_112 : ByteArray) (obj0_0_3_112 : Int) (obj0_0_4n_112 : Bool) (obj0_0_4_112 : List AV) (obj0_0_5_112 : Int) (obj0_0_6_112 : Int) => some (bv t4_112))
                (fun (sets6_113 : Int) (obj0_0_0_113 : Int) (obj0_0_1_113 : ByteArray) (obj0_0_2_113 : ByteArray) (obj0_0_3_113 : Int) (obj0_0_4n_113 : Bool) (obj0_0_4_113 : List AV) (obj0_0_5_113 : Int) (obj0_0_6_113 : Int) => br (sets6_113 == 0)
                  (some (bv (((obj0_0_4_113.length : Nat) : Int) == 0)))
                  (optK (K f_uids_Right [AV.lst 2 obj0_0_4n_113 obj0_0_4_113]) fun wv114 =>
                  Ab.asBool wv114 fun wb115 =>
                  some (bv wb115))))
              (br (k0_0 == 16)
                (optK (lsearch_may_0 (Ssearch_may_0.s0 at1 1 0 k0_5 k0_6 0 k0_0 k0_1 k0_2 k0_3 k0_4n k0_4 k0_5 k0_6)) fun wo116 => Osearch_may_0.k wo116
                  (fun (t4_117 : Bool) (sets6_117 : Int) (obj0_0_0_117 : Int) (obj0_0_1_117 : ByteArray) (obj0_0_2_117 : ByteArray) (obj0_0_3_117 : Int) (obj0_0_4n_117 : Bool) (obj0_0_4_117 : List AV) (obj0_0_5_117 : Int) (obj0_0_6_117 : Int) => some (bv t4_117))
                  (fun (sets6_118 : Int) (obj0_0_0_118 : Int) (obj0_0_1_118 : ByteArray) (obj0_0_2_118 : ByteArray) (obj0_0_3_118 : Int) (obj0_0_4n_118 : Bool) (obj0_0_4_118 : List AV) (obj0_0_5_118 : Int) (obj0_0_6_118 : Int) => br (sets6_118 == 0)
                    (some (bv (((obj0_0_4_118.length : Nat) : Int) == 0)))
                    (optK (K f_uids_Right [AV.lst 2 obj0_0_4n_118 obj0_0_4_118]) fun wv119 =>
                    Ab.asBool wv119 fun wb120 =>
                    some (bv wb120))))
                (br (k0_0 == 17)
                  (br (k0_0 == 17)
                    (optK (lsearch_may_0 (Ssearch_may_0.s0 at1 2 0 k0_5 k0_6 0 k0_0 k0_1 k0_2 k0_3 k0_4n k0_4 k0_5 k0_6)) fun wo121 => Osearch_may_0.k wo121
                      (fun (t4_122 : Bool) (sets6_122 : Int) (obj0_0_0_122 : Int) (obj0_0_1_122 : ByteArray) (obj0_0_2_122 : ByteArray) (obj0_0_3_122 : Int) (obj0_0_4n_122 : Bool) (obj0_0_4_122 : List AV) (obj0_0_5_122 : Int) (obj0_0_6_122 : Int) => some (bv t4_122))
                      (fun (sets6_123 : Int) (obj0_0_0_123 : Int) (obj0_0_1_123 : ByteArray) (obj0_0_2_123 : ByteArray) (obj0_0_3_123 : Int) (obj0_0_4n_123 : Bool) (obj0_0_4_123 : List AV) (obj0_0_5_123 : Int) (obj0_0_6_123 : Int) => br (sets6_123 == 0)
                        (some (bv (((obj0_0_4_123.length : Nat) : Int) == 0)))
                        (optK (K f_uids_Right [AV.lst 2 obj0_0_4n_123 obj0_0_4_123]) fun wv124 =>
                        Ab.asBool wv124 fun wb125 =>
                        some (bv wb125))))
                    (optK (lsearch_may_0 (Ssearch_may_0.s0 at1 0 0 k0_5 k0_6 0 k0_0 k0_1 k0_2 k0_3 k0_4n k0_4 k0_5 k0_6)) fun wo126 => Osearch_may_0.k wo126
                      (fun (t4_127 : Bool) (sets6_127 : Int) (obj0_0_0_127 : Int) (obj0_0_1_127 : ByteArray) (obj0_0_2_127 : ByteArray) (obj0_0_3_127 : Int) (obj0_0_4n_127 : Bool) (obj0_0_4_127 : List AV) (obj0_0_5_127 : Int) (obj0_0_6_127 : Int) => some (bv t4_127))
                      (fun (sets6_128 : Int) (obj0_0_0_128 : Int) (obj0_0_1_128 : ByteArray) (obj0_0_2_128 : ByteArray) (obj0_0_3_128 : Int) (obj0_0_4n_128 : Bool) (obj0_0_4_128 : List AV) (obj0_0_5_128 : Int) (obj0_0_6_128 : Int) => br (sets6_128 == 0)
                        (some (bv (((obj0_0_4_128.length : Nat) : Int) == 0)))
                        (optK (K f_uids_Right [AV.lst 2 obj0_0_4n_128 obj0_0_4_128]) fun wv129 =>
                        Ab.asBool wv129 fun wb130 =>
                        some (bv wb130)))))
                  (br (k0_0 == 18)
                    (optK (lsearch_may_0 (Ssearch_may_0.s0 at1 2 0 k0_5 k0_6 0 k0_0 k0_1 k0_2 k0_3 k0_4n k0_4 k0_5 k0_6)) fun wo131 => Osearch_may_0.k wo131
                      (fun (t4_132 : Bool) (sets6_132 : Int) (obj0_0_0_132 : Int) (obj0_0_1_132 : ByteArray) (obj0_0_2_132 : ByteArray) (obj0_0_3_132 : Int) (obj0_0_4n_132 : Bool) (obj0_0_4_132 : List AV) (obj0_0_5_132 : Int) (obj0_0_6_132 : Int) => some (bv t4_132))
                      (fun (sets6_133 : Int) (obj0_0_0_133 : Int) (obj0_0_1_133 : ByteArray) (obj0_0_2_133 : ByteArray) (obj0_0_3_133 : Int) (obj0_0_4n_133 : Bool) (obj0_0_4_133 : List AV) (obj0_0_5_133 : Int) (obj0_0_6_133 : Int) => br (sets6_133 == 0)
                        (some (bv (((obj0_0_4_133.length : Nat) : Int) == 0)))
                        (optK (K f_uids_Right [AV.lst 2 obj0_0_4n_133 obj0_0_4_133]) fun wv134 =>
                        Ab.asBool wv134 fun wb135 =>
                        some (bv wb135))))
                    (optK (lsearch_may_0 (Ssearch_may_0.s0 at1 0 0 k0_5 k0_6 0 k0_0 k0_1 k0_2 k0_3 k0_4n k0_4 k0_5 k0_6)) fun wo136 => Osearch_may_0.k wo136
                      (fun (t4_137 : Bool) (sets6_137 : Int) (obj0_0_0_137 : Int) (obj0_0_1_137 : ByteArray) (obj0_0_2_137 : ByteArray) (obj0_0_3_137 : Int) (obj0_0_4n_137 : Bool) (obj0_0_4_137 : List AV) (obj0_0_5_137 : Int) (obj0_0_6_137 : Int) => some (bv t4_137))
                      (fun (sets6_138 : Int) (obj0_0_0_138 : Int) (obj0_0_1_138 : ByteArray) (obj0_0_2_138 : ByteArray) (obj0_0_3_138 : Int) (obj0_0_4n_138 : Bool) (obj0_0_4_138 : List AV) (obj0_0_5_138 : Int) (obj0_0_6_138 : Int) => br (sets6_138 == 0)
                        (some (bv (((obj0_0_4_138.length : Nat) : Int) == 0)))
                        (optK (K f_uids_Right [AV.lst 2 obj0_0_4n_138 obj0_0_4_138]) fun wv139 =>
                        Ab.asBool wv139 fun wb140 =>
                        some (bv wb140)))))))))))
theorem topsearch_may (K : PureK) (lsearch_may_0 : Ssearch_may_0 → Option Osearch_may_0) (k0_0 : Int) (k0_1 : ByteArray) (k0_2 : ByteArray) (k0_3 : Int) (k0_4n : Bool) (k0_4 : List AV) (k0_5 : Int) (k0_6 : Int) (at1 : Int) : topK (addLp X 20 18 (Fsearch_may_0 lsearch_may_0)) K 0 f_search_may [(.agg [(.v (.int .i64 k0_0)), (.v (.string k0_1)), (.v (.string k0_2)), (.v (.int .i64 k0_3)), (.lst 2 k0_4n k0_4), (.v (.int .i64 k0_5)), (.v (.int .i64 k0_6))]), (.v (.int .i64 at1))] = Rsearch_may K lsearch_may_0 k0_0 k0_1 k0_2 k0_3 k0_4n k0_4 k0_5 k0_6 at1 := by kernel_rfl
theorem pcsearch_may {K : PureK} (hK : KOk X K) {lsearch_may_0 : Ssearch_may_0 → Option Osearch_may_0} (hsearch_may_0 : ∀ s o, lsearch_may_0 s = some o → ∃ m, fuelRec (Rsearch_may_0 K some) m s = some o) {k0_0 : Int} {k0_1 : ByteArray} {k0_2 : ByteArray} {k0_3 : Int} {k0_4n : Bool} {k0_4 : List AV} {k0_5 : Int} {k0_6 : Int} {at1 : Int} {v : AV} (h : Rsearch_may K lsearch_may_0 k0_0 k0_1 k0_2 k0_3 k0_4n k0_4 k0_5 k0_6 at1 = some v) : PureCall X f_search_may [(.agg [(.v (.int .i64 k0_0)), (.v (.string k0_1)), (.v (.string k0_2)), (.v (.int .i64 k0_3)), (.lst 2 k0_4n k0_4), (.v (.int .i64 k0_5)), (.v (.int .i64 k0_6))]), (.v (.int .i64 at1))] v := by
  have hSo0 := soundX
  obtain ⟨_, _, hin0⟩ := loopIn_of (X := X) (f := 20) (i := 0) (key := 18) (by kernel_rfl)
  have hSo1 := sound_add hSo0 hin0 (oksearch_may_0 hSo0 hK hsearch_may_0)
  exact tell_top (X := X) (Y := (addLp X 20 18 (Fsearch_may_0 lsearch_may_0))) rfl rfl hSo1 hK ((topsearch_may K lsearch_may_0 k0_0 k0_1 k0_2 k0_3 k0_4n k0_4 k0_5 k0_6 at1).trans h)

/-! 16: escheat/search.Right -/
inductive Ssearch_Right_0 where
  | s0 (l0n : Bool) (l0 : List AV) (t5n : Bool) (t5 : List AV) (t6 : Int) (t7 : Int)

inductive Osearch_Right_0 where
  | x0 (l0n : Bool) (l0 : List AV) (t2 : Bool) (obj0_0_0 : Int) (obj0_0_1 : ByteArray) (obj0_0_2 : ByteArray) (obj0_0_3 : Int) (obj0_0_4n : Bool) (obj0_0_4 : List AV) (obj0_0_5 : Int) (obj0_0_6 : Int)
  | x1 (l0n : Bool) (l0 : List AV)

def Osearch_Right_0.k {β : Type} (o : Osearch_Right_0) (c0 : Bool → (List AV) → Bool → Int → ByteArray → ByteArray → Int → Bool → (List AV) → Int → Int → Option β) (c1 : Bool → (List AV) → Option β) : Option β := match o with
  | .x0 l0n l0 t2 obj0_0_0 obj0_0_1 obj0_0_2 obj0_0_3 obj0_0_4n obj0_0_4 obj0_0_5 obj0_0_6 => c0 l0n l0 t2 obj0_0_0 obj0_0_1 obj0_0_2 obj0_0_3 obj0_0_4n obj0_0_4 obj0_0_5 obj0_0_6
  | .x1 l0n l0 => c1 l0n l0

def Esearch_Right_0 : Ssearch_Right_0 → Env
  | .s0 l0n l0 t5n t5 t6 t7 => [(.lst 7 l0n l0), .dead, .dead, .dead, .dead, (.lst 7 t5n t5), (.v (.int .i64 t6)), (.v (.int .i64 t7)), .dead, .dead, .dead, .dead, .dead, .dead, .dead, .dead, .dead, .dead, .dead, .dead, .dead, .dead, .dead, .dead]

def Hsearch_Right_0 : Ssearch_Right_0 → Heap
  | .s0 l0n l0 t5n t5 t6 t7 => []

def Tsearch_Right_0 {β : Type} (k : Ex → Env → Heap → Option β) (o : Osearch_Right_0) : Option β := Osearch_Right_0.k o (fun l0n l0 t2 obj0_0_0 obj0_0_1 obj0_0_2 obj0_0_3 obj0_0_4n obj0_0_4 obj0_0_5 obj0_0_6 => k .ret [(.lst 7 l0n l0), .dead, (.v (.bool t2)), .dead, .dead, .dead, .dead, .dead, .dead, .dead, .dead, .dead, .dead, .dead, .dead, .dead, .dead, .dead, .dead, .dead, .dead, .dead, .dead, .dead] [⟨[(.agg [(.v (.int .i64 obj0_0_0)), (.v (.string obj0_0_1)), (.v (.string obj0_0_2)), (.v (.int .i64 obj0_0_3)), (.lst 2 obj0_0_4n obj0_0_4), (.v (.int .i64 obj0_0_5)), (.v (.int .i64 obj0_0_6))])], 0, 0, true, true, 24, 7, none⟩]) (fun l0n l0 => k (.exit 0) [(.lst 7 l0n l0), .dead, .dead, .dead, .dead, .dead, .dead, .dead, .dead, .dead, .dead, .dead, .dead, .dead, .dead, .dead, .dead, .dead, .dead, .dead, .dead, .dead, .dead, .dead] [])

def Fsearch_Right_0 (lsearch_Right_0 : Ssearch_Right_0 → Option Osearch_Right_0) : LoopF := ⟨fun e h k => match Nat.beq e.length 24 with
  | true => (match e.getD 0 .dead, e.getD 5 .dead, e.getD 6 .dead, e.getD 7 .dead, h with
    | (.lst 7 l0n l0), (.lst 7 t5n t5), (.v (.int .i64 t6)), (.v (.int .i64 t7)), [] => optK (lsearch_Right_0 (.s0 l0n l0 t5n t5 t6 t7)) (Tsearch_Right_0 k)
    | _, _, _, _, _ => none)
  | false => none⟩

def clsearch_Right_0 : List Tmp := [1, 2, 3, 4, 8, 9, 10, 11, 12, 13, 14, 15, 16, 17, 18, 19, 20, 21, 22, 23]
def closearch_Right_0 : List Tmp := [1, 3, 4, 5, 6, 7, 8, 9, 10, 11, 12, 13, 14, 15, 16, 17, 18, 19, 20, 21, 22, 23]

noncomputable def Rsearch_Right_0 {β : Type} (K : PureK) (d : Osearch_Right_0 → Option β) (r : Ssearch_Right_0 → Option β) : Ssearch_Right_0 → Option β
  | .s0 l0n l0 t5n t5 t6 t7 =>
    br (decide (t7 < t6))
      (br (decide (0 ≤ t7))
        (br (decide (t7 < ((t5.length : Nat) : Int)))
          (optK t5[t7.toNat]? fun wv1 =>
          Ab.asAgg wv1 7 fun wg2 =>
          Ab.asInt (wg2 0) .i64 fun wn3 =>
          Ab.asStr (wg2 1) fun ws4 =>
          Ab.asStr (wg2 2) fun ws5 =>
          Ab.asInt (wg2 3) .i64 fun wn6 =>
          Ab.asLst (wg2 4) 2 fun wb7 wr7 =>
          Ab.asInt (wg2 5) .i64 fun wn8 =>
          Ab.asInt (wg2 6) .i64 fun wn9 =>
          optK (br (decide (t7 ≥ 60))
              (some (bv true))
              (optK (K f_search_may [AV.agg [iv wn3, sv ws4, sv ws5, iv wn6, AV.lst 2 wb7 wr7, iv wn8, iv wn9], iv t7]) fun wv11 =>
              Ab.asBool wv11 fun wb12 =>
              some (bv !wb12))) fun wv10 =>
          Ab.asBool wv10 fun wb13 =>
          br wb13
            (d (.x0 l0n l0 false wn3 ws4 ws5 wn6 wb7 wr7 wn8 wn9))
            (r (.s0 l0n l0 t5n t5 t6 (w64 (t7 + 1)))))
          (none))
        (none))
      (d (.x1 l0n l0))
theorem roundsearch_Right_0 (K : PureK) {β : Type} (r : Env → Heap → Option β) (k : Ex → Env → Heap → Option β) (s : Ssearch_Right_0) : tellOne X K 0 16 0 [(0, 1, 0), (1, 1, 0), (2, 1, 0)] 0 clsearch_Right_0 closearch_Right_0 r k (Esearch_Right_0 s) (Hsearch_Right_0 s) = Rsearch_Right_0 K (Tsearch_Right_0 k) (fun s => r (Esearch_Right_0 s) (Hsearch_Right_0 s)) s := by
  cases s <;> kernel_rfl
theorem Osearch_Right_0.bind_k {β γ : Type} (o : Osearch_Right_0) (c0 : Bool → (List AV) → Bool → Int → ByteArray → ByteArray → Int → Bool → (List AV) → Int → Int → Option β) (c1 : Bool → (List AV) → Option β) (φ : β → Option γ) : (Osearch_Right_0.k o c0 c1).bind φ = Osearch_Right_0.k o (fun l0n l0 t2 obj0_0_0 obj0_0_1 obj0_0_2 obj0_0_3 obj0_0_4n obj0_0_4 obj0_0_5 obj0_0_6 => (c0 l0n l0 t2 obj0_0_0 obj0_0_1 obj0_0_2 obj0_0_3 obj0_0_4n obj0_0_4 obj0_0_5 obj0_0_6).bind φ) (fun l0n l0 => (c1 l0n l0).bind φ) := by cases o <;> rfl
theorem natsearch_Right_0 (K : PureK) {β γ : Type} (φ : β → Option γ) (d : Osearch_Right_0 → Option β) (r : Ssearch_Right_0 → Option β) (s : Ssearch_Right_0) : Rsearch_Right_0 K (fun o => (d o).bind φ) (fun s => (r s).bind φ) s = (Rsearch_Right_0 K d r s).bind φ := by
  cases s <;> simp only [Rsearch_Right_0, bind_optK, bind_br, bind_asInt, bind_asBool, bind_asStr, bind_asLst, bind_asAgg, bind_asTup, bind_asBig, bind_asErr, bind_none]
theorem outsearch_Right_0 (o : Osearch_Right_0) : ∃ x e' h', ∀ {β : Type} (k : Ex → Env → Heap → Option β), Tsearch_Right_0 k o = k x e' h' := by cases o <;> exact ⟨_, _, _, fun _ => rfl⟩
theorem oksearch_Right_0 {K : PureK} (hX : Sound X) (hK : KOk X K) {lsearch_Right_0 : Ssearch_Right_0 → Option Osearch_Right_0} (hl : ∀ s o, lsearch_Right_0 s = some o → ∃ m, fuelRec (Rsearch_Right_0 K some) m s = some o) (β : Type) (e : Env) (h : Heap) (k : Ex → Env → Heap → Option β) (r : β) (hr : (Fsearch_Right_0 lsearch_Right_0).run e h k = some r) : ∃ x e' h', k x e' h' = some r ∧ CodeAt X (.loop (loopBody (X).P 16 0)) e h x e' h' := by
  obtain ⟨fn, c, hin⟩ := loopIn_of (X := X) (f := 16) (i := 0) (key := 2) (by kernel_rfl)
  simp only [Fsearch_Right_0] at hr
  split at hr
  · rename_i hlen
    have hlen := Nat.eq_of_beq_eq_true hlen
    split at hr
    · rename_i q0 q5 q6 q7
      obtain ⟨o, ho, hr⟩ := optK_some hr
      refine tell_ok hX (KOk.congr (X := X) (Y := X) rfl rfl hK) hin (E := Esearch_Right_0) (H := Hsearch_Right_0) (R := fun d r => Rsearch_Right_0 K d r) (T := Tsearch_Right_0) (ts := [(0, 1, 0), (1, 1, 0), (2, 1, 0)]) (len := 0) (cl := clsearch_Right_0) (clo := closearch_Right_0) (roundsearch_Right_0 K) (natsearch_Right_0 K) outsearch_Right_0 (hl _ _ ho) (cl0 := clsearch_Right_0) (ts0 := []) ?_ rfl (by kernel_rfl) (by kernel_rfl) hr
      rw [clear_lit e 24 hlen, show clearEnv clsearch_Right_0 ((List.range 24).map fun i => e.getD i .dead) = [e.getD 0 .dead, .dead, .dead, .dead, .dead, e.getD 5 .dead, e.getD 6 .dead, e.getD 7 .dead, .dead, .dead, .dead, .dead, .dead, .dead, .dead, .dead, .dead, .dead, .dead, .dead, .dead, .dead, .dead, .dead] from by kernel_rfl]; rw [q0, q5, q6, q7]
      kernel_rfl
    · cases hr
  · cases hr
noncomputable def Rsearch_Right (K : PureK) (lsearch_Right_0 : Ssearch_Right_0 → Option Osearch_Right_0) (l0n : Bool) (l0 : List AV) : Option AV :=
  optK (lsearch_Right_0 (Ssearch_Right_0.s0 l0n l0 l0n l0 (((l0.length : Nat) : Int)) 0)) fun wo1 => Osearch_Right_0.k wo1
      (fun (l0n_2 : Bool) (l0_2 : List AV) (t2_2 : Bool) (obj0_0_0_2 : Int) (obj0_0_1_2 : ByteArray) (obj0_0_2_2 : ByteArray) (obj0_0_3_2 : Int) (obj0_0_4n_2 : Bool) (obj0_0_4_2 : List AV) (obj0_0_5_2 : Int) (obj0_0_6_2 : Int) => some (bv t2_2))
      (fun (l0n_3 : Bool) (l0_3 : List AV) => some (bv (decide (((l0_3.length : Nat) : Int) > 0))))
theorem topsearch_Right (K : PureK) (lsearch_Right_0 : Ssearch_Right_0 → Option Osearch_Right_0) (l0n : Bool) (l0 : List AV) : topK (addLp X 16 2 (Fsearch_Right_0 lsearch_Right_0)) K 0 f_search_Right [(.lst 7 l0n l0)] = Rsearch_Right K lsearch_Right_0 l0n l0 := by kernel_rfl
theorem pcsearch_Right {K : PureK} (hK : KOk X K) {lsearch_Right_0 : Ssearch_Right_0 → Option Osearch_Right_0} (hsearch_Right_0 : ∀ s o, lsearch_Right_0 s = some o → ∃ m, fuelRec (Rsearch_Right_0 K some) m s = some o) {l0n : Bool} {l0 : List AV} {v : AV} (h : Rsearch_Right K lsearch_Right_0 l0n l0 = some v) : PureCall X f_search_Right [(.lst 7 l0n l0)] v := by
  have hSo0 := soundX
  obtain ⟨_, _, hin0⟩ := loopIn_of (X := X) (f := 16) (i := 0) (key := 2) (by kernel_rfl)
  have hSo1 := sound_add hSo0 hin0 (oksearch_Right_0 hSo0 hK hsearch_Right_0)
  exact tell_top (X := X) (Y := (addLp X 16 2 (Fsearch_Right_0 lsearch_Right_0))) rfl rfl hSo1 hK ((topsearch_Right K lsearch_Right_0 l0n l0).trans h)

/-! 25: escheat/search.dated -/
noncomputable def Rsearch_dated (K : PureK) (day0 : Int) (kind1 : Int) (n2 : Int) : Option AV :=
  br (kind1 == 0)
      (some (bv (decide (day0 < n2))))
      (br (kind1 == 1)
        (some (bv (day0 == n2)))
        (some (bv (decide (day0 ≥ n2)))))
theorem topsearch_dated (K : PureK) (day0 : Int) (kind1 : Int) (n2 : Int) : topK X K 0 f_search_dated [(.v (.int .i64 day0)), (.v (.int .i64 kind1)), (.v (.int .i64 n2))] = Rsearch_dated K day0 kind1 n2 := by kernel_rfl
theorem pcsearch_dated {K : PureK} (hK : KOk X K) {day0 : Int} {kind1 : Int} {n2 : Int} {v : AV} (h : Rsearch_dated K day0 kind1 n2 = some v) : PureCall X f_search_dated [(.v (.int .i64 day0)), (.v (.int .i64 kind1)), (.v (.int .i64 n2))] v := by
  have hSo0 := soundX
  exact tell_top (X := X) (Y := X) rfl rfl hSo0 hK ((topsearch_dated K day0 kind1 n2).trans h)

/-! 26: escheat/date.Day -/
noncomputable def Rdate_Day (K : PureK) (t0 : Int) : Option AV :=
  br (decide (t0 < 0))
      (some (iv (-1)))
      (some (iv (w64 (t0.tdiv 86400))))
theorem topdate_Day (K : PureK) (t0 : Int) : topK X K 0 f_date_Day [(.v (.int .i64 t0))] = Rdate_Day K t0 := by kernel_rfl
theorem pcdate_Day {K : PureK} (hK : KOk X K) {t0 : Int} {v : AV} (h : Rdate_Day K t0 = some v) : PureCall X f_date_Day [(.v (.int .i64 t0))] v := by
  have hSo0 := soundX
  exact tell_top (X := X) (Y := X) rfl rfl hSo0 hK ((topdate_Day K t0).trans h)

/-! 24: escheat/uids.Right -/
noncomputable def Ruids_Right (K : PureK) (l0n : Bool) (l0 : List AV) : Option AV :=
  optK (br (decide (((l0.length : Nat) : Int) ≥ 1))
        (br (decide (((l0.length : Nat) : Int) ≤ 60))
          (optK (K f_slices_ContainsFunc_api_Range_api_Range [AV.lst 2 l0n l0, AV.fn (Fn.func 33) [] []]) fun wv2 =>
          Ab.asBool wv2 fun wb3 =>
          some (bv !wb3))
          (some (bv false)))
        (some (bv false))) fun wv1 =>
    Ab.asBool wv1 fun wb4 =>
    some (bv wb4)
theorem topuids_Right (K : PureK) (l0n : Bool) (l0 : List AV) : topK X K 0 f_uids_Right [(.lst 2 l0n l0)] = Ruids_Right K l0n l0 := by kernel_rfl
theorem pcuids_Right {K : PureK} (hK : KOk X K) {l0n : Bool} {l0 : List AV} {v : AV} (h : Ruids_Right K l0n l0 = some v) : PureCall X f_uids_Right [(.lst 2 l0n l0)] v := by
  have hSo0 := soundX
  exact tell_top (X := X) (Y := X) rfl rfl hSo0 hK ((topuids_Right K l0n l0).trans h)

/-! 23: escheat/flag.Right -/
noncomputable def Rflag_Right (K : PureK) (flags0 : Int) : Option AV :=
  some (bv (w64 ((((BitVec.ofInt 64 flags0 &&& ~~~BitVec.ofInt 64 31).toNat : Nat) : Int)) == 0))
theorem topflag_Right (K : PureK) (flags0 : Int) : topK X K 0 f_flag_Right [(.v (.int .i64 flags0))] = Rflag_Right K flags0 := by kernel_rfl
theorem pcflag_Right {K : PureK} (hK : KOk X K) {flags0 : Int} {v : AV} (h : Rflag_Right K flags0 = some v) : PureCall X f_flag_Right [(.v (.int .i64 flags0))] v := by
  have hSo0 := soundX
  exact tell_top (X := X) (Y := X) rfl rfl hSo0 hK ((topflag_Right K flags0).trans h)

/-! 34: escheat/uids.may -/
noncomputable def Ruids_may (K : PureK) (n0 : Int) : Option AV :=
  optK (br (decide (n0 ≥ 0))
        (some (bv (decide (n0 ≤ 4294967295))))
        (some (bv false))) fun wv1 =>
    Ab.asBool wv1 fun wb2 =>
    some (bv wb2)
theorem topuids_may (K : PureK) (n0 : Int) : topK X K 0 f_uids_may [(.v (.int .i64 n0))] = Ruids_may K n0 := by kernel_rfl
theorem pcuids_may {K : PureK} (hK : KOk X K) {n0 : Int} {v : AV} (h : Ruids_may K n0 = some v) : PureCall X f_uids_may [(.v (.int .i64 n0))] v := by
  have hSo0 := soundX
  exact tell_top (X := X) (Y := X) rfl rfl hSo0 hK ((topuids_may K n0).trans h)

end Go.Proofs.YtkkbdebmilagoaaGreatDoor
