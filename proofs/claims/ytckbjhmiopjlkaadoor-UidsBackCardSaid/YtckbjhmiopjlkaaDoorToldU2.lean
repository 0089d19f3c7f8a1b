import Derived.Test.YtckbjhmiopjlkaaDoorCtx
set_option maxRecDepth 100000
set_option linter.unusedVariables false
set_option linter.unusedSimpArgs false
namespace Go.Proofs.YtckbjhmiopjlkaaDoor
open Go Go.Ab
/-! 9: escheat/uids.Has -/
noncomputable def Ruids_Has (K : PureK) (l0n : Bool) (l0 : List AV) (n1 : Int) (last2 : Int) : Option AV :=
  br (decide (n1 ≥ 1))
      (optK (K f_slices_ContainsFunc_api_Range_api_Range [AV.lst 2 l0n l0, AV.fn (Fn.func 26) [] [(AV.fn (Fn.func 24) [] [(iv last2).pl 0]).pl 0, (iv n1).pl 0]]) fun wv1 =>
      Ab.asBool wv1 fun wb2 =>
      some (bv wb2))
      (some (bv false))
theorem topuids_Has (K : PureK) (l0n : Bool) (l0 : List AV) (n1 : Int) (last2 : Int) : topK X K 0 f_uids_Has [(.lst 2 l0n l0), (.v (.int .i64 n1)), (.v (.int .i64 last2))] = Ruids_Has K l0n l0 n1 last2 := by kernel_rfl
theorem pcuids_Has {K : PureK} (hK : KOk X K) {l0n : Bool} {l0 : List AV} {n1 : Int} {last2 : Int} {v : AV} (h : Ruids_Has K l0n l0 n1 last2 = some v) : PureCall X f_uids_Has [(.lst 2 l0n l0), (.v (.int .i64 n1)), (.v (.int .i64 last2))] v := by
  have hSo0 := soundX
  exact tell_top (X := X) (Y := X) rfl rfl hSo0 hK ((topuids_Has K l0n l0 n1 last2).trans h)

abbrev f_slices_ContainsFunc__has : FuncId := 25
/-! 25: slices.ContainsFunc[[]escheat/api.Range,escheat/api.Range] -/
noncomputable def Rslices_ContainsFunc__has (K : PureK) (s0n : Bool) (s0 : List AV) (last : Int) (n : Int) : Option AV :=
  optK (K f_slices_IndexFunc_api_Range_api_Range [AV.lst 2 s0n s0, AV.fn (Fn.func 26) [] [(AV.fn (Fn.func 24) [] [(iv last).pl 0]).pl 0, (iv n).pl 0]]) fun wv1 =>
    Ab.asInt wv1 .i64 fun wn2 =>
    some (bv (decide (wn2 ≥ 0)))
theorem topslices_ContainsFunc__has (K : PureK) (s0n : Bool) (s0 : List AV) (last : Int) (n : Int) : topK X K 0 f_slices_ContainsFunc__has [(.lst 2 s0n s0), (.fn (.func 26) [] [(.pl (.fn (.func 24) [] [(.pl (.v (.int .i64 last)) 0)]) 0), (.pl (.v (.int .i64 n)) 0)])] = Rslices_ContainsFunc__has K s0n s0 last n := by kernel_rfl
theorem pcslices_ContainsFunc__has {K : PureK} (hK : KOk X K) {s0n : Bool} {s0 : List AV} {last : Int} {n : Int} {v : AV} (h : Rslices_ContainsFunc__has K s0n s0 last n = some v) : PureCall X f_slices_ContainsFunc__has [(.lst 2 s0n s0), (.fn (.func 26) [] [(.pl (.fn (.func 24) [] [(.pl (.v (.int .i64 last)) 0)]) 0), (.pl (.v (.int .i64 n)) 0)])] v := by
  have hSo0 := soundX
  exact tell_top (X := X) (Y := X) rfl rfl hSo0 hK ((topslices_ContainsFunc__has K s0n s0 last n).trans h)

abbrev f_slices_IndexFunc__has : FuncId := 40
/-! 40: slices.IndexFunc[[]escheat/api.Range,escheat/api.Range] -/
inductive Sslices_IndexFunc__has_0 where
  | s0 (s0n : Bool) (s0 : List AV) (f1b_0pb_0p : Int) (f1b_1p : Int) (t7 : Int) (t8 : Int)

inductive Oslices_IndexFunc__has_0 where
  | x0 (t4 : Int)
  | x1

def Oslices_IndexFunc__has_0.k {β : Type} (o : Oslices_IndexFunc__has_0) (c0 : Int → Option β) (c1 : Option β) : Option β := match o with
  | .x0 t4 => c0 t4
  | .x1 => c1

def Eslices_IndexFunc__has_0 : Sslices_IndexFunc__has_0 → Env
  | .s0 s0n s0 f1b_0pb_0p f1b_1p t7 t8 => [(.lst 2 s0n s0), (.fn (.func 26) [] [(.pl (.fn (.func 24) [] [(.pl (.v (.int .i64 f1b_0pb_0p)) 0)]) 0), (.pl (.v (.int .i64 f1b_1p)) 0)]), .dead, .dead, .dead, .dead, .dead, (.v (.int .i64 t7)), (.v (.int .i64 t8)), .dead, .dead, .dead, .dead, .dead, .dead, .dead, .dead, .dead, .dead]

def Hslices_IndexFunc__has_0 : Sslices_IndexFunc__has_0 → Heap
  | .s0 s0n s0 f1b_0pb_0p f1b_1p t7 t8 => []

def Tslices_IndexFunc__has_0 {β : Type} (k : Ex → Env → Heap → Option β) (o : Oslices_IndexFunc__has_0) : Option β := Oslices_IndexFunc__has_0.k o (fun t4 => k .ret [.dead, .dead, .dead, .dead, (.v (.int .i64 t4)), .dead, .dead, .dead, .dead, .dead, .dead, .dead, .dead, .dead, .dead, .dead, .dead, .dead, .dead] []) (k (.exit 0) [.dead, .dead, .dead, .dead, .dead, .dead, .dead, .dead, .dead, .dead, .dead, .dead, .dead, .dead, .dead, .dead, .dead, .dead, .dead] [])

def Fslices_IndexFunc__has_0 (lslices_IndexFunc__has_0 : Sslices_IndexFunc__has_0 → Option Oslices_IndexFunc__has_0) : LoopF := ⟨fun e h k => match Nat.beq e.length 19 with
  | true => (match e.getD 0 .dead, e.getD 1 .dead, e.getD 7 .dead, e.getD 8 .dead, h with
    | (.lst 2 s0n s0), (.fn (.func 26) [] [(.pl (.fn (.func 24) [] [(.pl (.v (.int .i64 f1b_0pb_0p)) 0)]) 0), (.pl (.v (.int .i64 f1b_1p)) 0)]), (.v (.int .i64 t7)), (.v (.int .i64 t8)), [] => optK (lslices_IndexFunc__has_0 (.s0 s0n s0 f1b_0pb_0p f1b_1p t7 t8)) (Tslices_IndexFunc__has_0 k)
    | _, _, _, _, _ => none)
  | false => none⟩

def clslices_IndexFunc__has_0 : List Tmp := [2, 3, 4, 5, 6, 9, 10, 11, 12, 13, 14, 15, 16, 17, 18]
def closlices_IndexFunc__has_0 : List Tmp := [0, 1, 2, 3, 5, 6, 7, 8, 9, 10, 11, 12, 13, 14, 15, 16, 17, 18]

noncomputable def Rslices_IndexFunc__has_0 {β : Type} (K : PureK) (d : Oslices_IndexFunc__has_0 → Option β) (r : Sslices_IndexFunc__has_0 → Option β) : Sslices_IndexFunc__has_0 → Option β
  | .s0 s0n s0 f1b_0pb_0p f1b_1p t7 t8 =>
    br (decide (t8 < t7))
      (br (decide (0 ≤ t8))
        (br (decide (t8 < ((s0.length : Nat) : Int)))
          (optK s0[t8.toNat]? fun wv1 =>
          Ab.asAgg wv1 2 fun wg2 =>
          Ab.asInt (wg2 0) .i64 fun wn3 =>
          Ab.asInt (wg2 1) .i64 fun wn4 =>
          optK (K f_uids_Has_2 [AV.agg [iv wn3, iv wn4], (AV.fn (Fn.func 24) [] [(iv f1b_0pb_0p).pl 0]).pl 0, (iv f1b_1p).pl 0]) fun wv5 =>
          Ab.asBool wv5 fun wb6 =>
          br wb6
            (d (.x0 t8))
            (r (.s0 s0n s0 f1b_0pb_0p f1b_1p t7 (w64 (t8 + 1)))))
          (none))
        (none))
      (d (.x1))
theorem roundslices_IndexFunc__has_0 (K : PureK) {β : Type} (r : Env → Heap → Option β) (k : Ex → Env → Heap → Option β) (s : Sslices_IndexFunc__has_0) : tellOne X K 0 40 0 [(0, 1, 0), (1, 1, 0), (2, 1, 0)] 0 clslices_IndexFunc__has_0 closlices_IndexFunc__has_0 r k (Eslices_IndexFunc__has_0 s) (Hslices_IndexFunc__has_0 s) = Rslices_IndexFunc__has_0 K (Tslices_IndexFunc__has_0 k) (fun s => r (Eslices_IndexFunc__has_0 s) (Hslices_IndexFunc__has_0 s)) s := by
  cases s <;> kernel_rfl
theorem Oslices_IndexFunc__has_0.bind_k {β γ : Type} (o : Oslices_IndexFunc__has_0) (c0 : Int → Option β) (c1 : Option β) (φ : β → Option γ) : (Oslices_IndexFunc__has_0.k o c0 c1).bind φ = Oslices_IndexFunc__has_0.k o (fun t4 => (c0 t4).bind φ) (c1.bind φ) := by cases o <;> rfl
theorem natslices_IndexFunc__has_0 (K : PureK) {β γ : Type} (φ : β → Option γ) (d : Oslices_IndexFunc__has_0 → Option β) (r : Sslices_IndexFunc__has_0 → Option β) (s : Sslices_IndexFunc__has_0) : Rslices_IndexFunc__has_0 K (fun o => (d o).bind φ) (fun s => (r s).bind φ) s = (Rslices_IndexFunc__has_0 K d r s).bind φ := by
  cases s <;> simp only [Rslices_IndexFunc__has_0, bind_optK, bind_br, bind_asInt, bind_asBool, bind_asStr, bind_asLst, bind_asAgg, bind_asTup, bind_asBig, bind_asErr, bind_none]
theorem outslices_IndexFunc__has_0 (o : Oslices_IndexFunc__has_0) : ∃ x e' h', ∀ {β : Type} (k : Ex → Env → Heap → Option β), Tslices_IndexFunc__has_0 k o = k x e' h' := by cases o <;> exact ⟨_, _, _, fun _ => rfl⟩
theorem okslices_IndexFunc__has_0 {K : PureK} (hX : Sound X) (hK : KOk X K) {lslices_IndexFunc__has_0 : Sslices_IndexFunc__has_0 → Option Oslices_IndexFunc__has_0} (hl : ∀ s o, lslices_IndexFunc__has_0 s = some o → ∃ m, fuelRec (Rslices_IndexFunc__has_0 K some) m s = some o) (β : Type) (e : Env) (h : Heap) (k : Ex → Env → Heap → Option β) (r : β) (hr : (Fslices_IndexFunc__has_0 lslices_IndexFunc__has_0).run e h k = some r) : ∃ x e' h', k x e' h' = some r ∧ CodeAt X (.loop (loopBody (X).P 40 0)) e h x e' h' := by
  obtain ⟨fn, c, hin⟩ := loopIn_of (X := X) (f := 40) (i := 0) (key := 2) (by kernel_rfl)
  simp only [Fslices_IndexFunc__has_0] at hr
  split at hr
  · rename_i hlen
    have hlen := Nat.eq_of_beq_eq_true hlen
    split at hr
    · rename_i q0 q1 q7 q8
      obtain ⟨o, ho, hr⟩ := optK_some hr
      refine tell_ok hX (KOk.congr (X := X) (Y := X) rfl rfl hK) hin (E := Eslices_IndexFunc__has_0) (H := Hslices_IndexFunc__has_0) (R := fun d r => Rslices_IndexFunc__has_0 K d r) (T := Tslices_IndexFunc__has_0) (ts := [(0, 1, 0), (1, 1, 0), (2, 1, 0)]) (len := 0) (cl := clslices_IndexFunc__has_0) (clo := closlices_IndexFunc__has_0) (roundslices_IndexFunc__has_0 K) (natslices_IndexFunc__has_0 K) outslices_IndexFunc__has_0 (hl _ _ ho) (cl0 := clslices_IndexFunc__has_0) (ts0 := []) ?_ rfl (by kernel_rfl) (by kernel_rfl) hr
      rw [clear_lit e 19 hlen, show clearEnv clslices_IndexFunc__has_0 ((List.range 19).map fun i => e.getD i .dead) = [e.getD 0 .dead, e.getD 1 .dead, .dead, .dead, .dead, .dead, .dead, e.getD 7 .dead, e.getD 8 .dead, .dead, .dead, .dead, .dead, .dead, .dead, .dead, .dead, .dead, .dead] from by kernel_rfl]; rw [q0, q1, q7, q8]
      kernel_rfl
    · cases hr
  · cases hr
noncomputable def Rslices_IndexFunc__has (K : PureK) (lslices_IndexFunc__has_0 : Sslices_IndexFunc__has_0 → Option Oslices_IndexFunc__has_0) (s0n : Bool) (s0 : List AV) (last : Int) (n : Int) : Option AV :=
  optK (lslices_IndexFunc__has_0 (Sslices_IndexFunc__has_0.s0 s0n s0 last n (((s0.length : Nat) : Int)) 0)) fun wo1 => Oslices_IndexFunc__has_0.k wo1
      (fun (t4_2 : Int) => some (iv t4_2))
      (some (iv (-1)))
theorem topslices_IndexFunc__has (K : PureK) (lslices_IndexFunc__has_0 : Sslices_IndexFunc__has_0 → Option Oslices_IndexFunc__has_0) (s0n : Bool) (s0 : List AV) (last : Int) (n : Int) : topK (addLp X 40 2 (Fslices_IndexFunc__has_0 lslices_IndexFunc__has_0)) K 0 f_slices_IndexFunc__has [(.lst 2 s0n s0), (.fn (.func 26) [] [(.pl (.fn (.func 24) [] [(.pl (.v (.int .i64 last)) 0)]) 0), (.pl (.v (.int .i64 n)) 0)])] = Rslices_IndexFunc__has K lslices_IndexFunc__has_0 s0n s0 last n := by kernel_rfl
theorem pcslices_IndexFunc__has {K : PureK} (hK : KOk X K) {lslices_IndexFunc__has_0 : Sslices_IndexFunc__has_0 → Option Oslices_IndexFunc__has_0} (hslices_IndexFunc__has_0 : ∀ s o, lslices_IndexFunc__has_0 s = some o → ∃ m, fuelRec (Rslices_IndexFunc__has_0 K some) m s = some o) {s0n : Bool} {s0 : List AV} {last : Int} {n : Int} {v : AV} (h : Rslices_IndexFunc__has K lslices_IndexFunc__has_0 s0n s0 last n = some v) : PureCall X f_slices_IndexFunc__has [(.lst 2 s0n s0), (.fn (.func 26) [] [(.pl (.fn (.func 24) [] [(.pl (.v (.int .i64 last)) 0)]) 0), (.pl (.v (.int .i64 n)) 0)])] v := by
  have hSo0 := soundX
  obtain ⟨_, _, hin0⟩ := loopIn_of (X := X) (f := 40) (i := 0) (key := 2) (by kernel_rfl)
  have hSo1 := sound_add hSo0 hin0 (okslices_IndexFunc__has_0 hSo0 hK hslices_IndexFunc__has_0)
  exact tell_top (X := X) (Y := (addLp X 40 2 (Fslices_IndexFunc__has_0 lslices_IndexFunc__has_0))) rfl rfl hSo1 hK ((topslices_IndexFunc__has K lslices_IndexFunc__has_0 s0n s0 last n).trans h)

abbrev f_uids_Has_2__x : FuncId := 26
/-! 26: escheat/uids.Has$2 -/
noncomputable def Ruids_Has_2__x (K : PureK) (a : Int) (b : Int) (last : Int) (n : Int) : Option AV :=
  optK (K f_uids_Has_1 [iv a, (iv last).pl 0]) fun wv1 =>
    Ab.asInt wv1 .i64 fun wn2 =>
    optK (K f_uids_Has_1 [iv b, (iv last).pl 0]) fun wv3 =>
    Ab.asInt wv3 .i64 fun wn4 =>
    optK (br (decide ((if wn4 < wn2 then wn4 else wn2) ≤ n))
        (some (bv (decide (n ≤ if wn2 < wn4 then wn4 else wn2))))
        (some (bv false))) fun wv5 =>
    Ab.asBool wv5 fun wb6 =>
    some (bv wb6)
theorem topuids_Has_2__x (K : PureK) (a : Int) (b : Int) (last : Int) (n : Int) : topK X K 0 f_uids_Has_2__x [(.agg [(.v (.int .i64 a)), (.v (.int .i64 b))]), (.pl (.fn (.func 24) [] [(.pl (.v (.int .i64 last)) 0)]) 0), (.pl (.v (.int .i64 n)) 0)] = Ruids_Has_2__x K a b last n := by kernel_rfl
theorem pcuids_Has_2__x {K : PureK} (hK : KOk X K) {a : Int} {b : Int} {last : Int} {n : Int} {v : AV} (h : Ruids_Has_2__x K a b last n = some v) : PureCall X f_uids_Has_2__x [(.agg [(.v (.int .i64 a)), (.v (.int .i64 b))]), (.pl (.fn (.func 24) [] [(.pl (.v (.int .i64 last)) 0)]) 0), (.pl (.v (.int .i64 n)) 0)] v := by
  have hSo0 := soundX
  exact tell_top (X := X) (Y := X) rfl rfl hSo0 hK ((topuids_Has_2__x K a b last n).trans h)

abbrev f_uids_Has_1__x : FuncId := 24
/-! 24: escheat/uids.Has$1 -/
noncomputable def Ruids_Has_1__x (K : PureK) (e0 : Int) (last : Int) : Option AV :=
  br (e0 == 0)
      (some (iv last))
      (some (iv e0))
theorem topuids_Has_1__x (K : PureK) (e0 : Int) (last : Int) : topK X K 0 f_uids_Has_1__x [(.v (.int .i64 e0)), (.pl (.v (.int .i64 last)) 0)] = Ruids_Has_1__x K e0 last := by kernel_rfl
theorem pcuids_Has_1__x {K : PureK} (hK : KOk X K) {e0 : Int} {last : Int} {v : AV} (h : Ruids_Has_1__x K e0 last = some v) : PureCall X f_uids_Has_1__x [(.v (.int .i64 e0)), (.pl (.v (.int .i64 last)) 0)] v := by
  have hSo0 := soundX
  exact tell_top (X := X) (Y := X) rfl rfl hSo0 hK ((topuids_Has_1__x K e0 last).trans h)

end Go.Proofs.YtckbjhmiopjlkaaDoor
