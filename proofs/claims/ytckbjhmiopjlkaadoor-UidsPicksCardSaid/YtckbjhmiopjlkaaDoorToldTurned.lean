import Derived.Test.YtckbjhmiopjlkaaDoorCtx
set_option maxRecDepth 100000
set_option linter.unusedVariables false
set_option linter.unusedSimpArgs false
namespace Go.Proofs.YtckbjhmiopjlkaaDoor
open Go Go.Ab
/-! 3: escheat/escheatlaw09.UidsTurned -/
inductive Slaw09_UidsTurned_0 where
  | s0 (l0n : Bool) (l0 : List AV) (n1 : Int) (last2 : Int) (i9 : Int)
  | s1 (l0n : Bool) (l0 : List AV) (n1 : Int) (last2 : Int) (i9 : Int) (obj0 : List AV) (obj1_0_0 : Int) (obj1_0_1 : Int) (obj2 : List AV)

inductive Olaw09_UidsTurned_0 where
  | x0 (l0n : Bool) (l0 : List AV) (n1 : Int) (last2 : Int)
  | x1 (l0n : Bool) (l0 : List AV) (n1 : Int) (last2 : Int) (obj0 : List AV) (obj1_0_0 : Int) (obj1_0_1 : Int) (obj2 : List AV)

def Olaw09_UidsTurned_0.k {β : Type} (o : Olaw09_UidsTurned_0) (c0 : Bool → (List AV) → Int → Int → Option β) (c1 : Bool → (List AV) → Int → Int → (List AV) → Int → Int → (List AV) → Option β) : Option β := match o with
  | .x0 l0n l0 n1 last2 => c0 l0n l0 n1 last2
  | .x1 l0n l0 n1 last2 obj0 obj1_0_0 obj1_0_1 obj2 => c1 l0n l0 n1 last2 obj0 obj1_0_0 obj1_0_1 obj2

def Elaw09_UidsTurned_0 : Slaw09_UidsTurned_0 → Env
  | .s0 l0n l0 n1 last2 i9 => [(.lst 2 l0n l0), (.v (.int .i64 n1)), (.v (.int .i64 last2)), .dead, .dead, .dead, .dead, (.lst 2 true []), (.lst 2 true []), (.v (.int .i64 i9)), .dead, .dead, .dead, .dead, .dead, .dead, .dead, .dead, .dead, .dead, .dead, .dead, .dead, .dead, .dead, .dead, .dead, .dead, .dead, .dead, .dead, .dead, .dead, .dead, .dead, .dead, .dead, .dead, .dead, .dead, .dead, .dead, .dead, .dead, .dead, .dead, .dead, .dead, .dead, .dead, .dead, .dead, .dead, .dead, .dead, .dead, .dead, .dead, .dead, .dead, .dead, .dead, .dead, .dead, .dead, .dead, .dead, .dead, .dead, .dead, .dead, .dead, .dead, .dead, .dead, .dead, .dead, .dead, .dead, .dead, .dead, .dead, .dead, .dead]
  | .s1 l0n l0 n1 last2 i9 obj0 obj1_0_0 obj1_0_1 obj2 => [(.lst 2 l0n l0), (.v (.int .i64 n1)), (.v (.int .i64 last2)), .dead, .dead, .dead, .dead, (.own 0 1 0 none), (.own 2 1 0 none), (.v (.int .i64 i9)), .dead, .dead, .dead, .dead, .dead, .dead, .dead, .dead, .dead, .dead, .dead, .dead, .dead, .dead, .dead, .dead, .dead, .dead, .dead, .dead, .dead, .dead, .dead, .dead, .dead, .dead, .dead, .dead, .dead, .dead, .dead, .dead, .dead, .dead, .dead, .dead, .dead, .dead, .dead, .dead, .dead, .dead, .dead, .dead, .dead, .dead, .dead, .dead, .dead, .dead, .dead, .dead, .dead, .dead, .dead, .dead, .dead, .dead, .dead, .dead, .dead, .dead, .dead, .dead, .dead, .dead, .dead, .dead, .dead, .dead, .dead, .dead, .dead, .dead]

def Hlaw09_UidsTurned_0 : Slaw09_UidsTurned_0 → Heap
  | .s0 l0n l0 n1 last2 i9 => []
  | .s1 l0n l0 n1 last2 i9 obj0 obj1_0_0 obj1_0_1 obj2 => [⟨obj0, 1, 0, true, false, 25, 2, none⟩, ⟨[(.agg [(.v (.int .i64 obj1_0_0)), (.v (.int .i64 obj1_0_1))])], 1, 0, true, true, 25, 2, none⟩, ⟨obj2, 1, 0, true, false, 25, 2, none⟩]

def Tlaw09_UidsTurned_0 {β : Type} (k : Ex → Env → Heap → Option β) (o : Olaw09_UidsTurned_0) : Option β := Olaw09_UidsTurned_0.k o (fun l0n l0 n1 last2 => k (.exit 0) [(.lst 2 l0n l0), (.v (.int .i64 n1)), (.v (.int .i64 last2)), .dead, .dead, .dead, .dead, (.lst 2 true []), (.lst 2 true []), .dead, .dead, .dead, .dead, .dead, .dead, .dead, .dead, .dead, .dead, .dead, .dead, .dead, .dead, .dead, .dead, .dead, .dead, .dead, .dead, .dead, .dead, .dead, .dead, .dead, .dead, .dead, .dead, .dead, .dead, .dead, .dead, .dead, .dead, .dead, .dead, .dead, .dead, .dead, .dead, .dead, .dead, .dead, .dead, .dead, .dead, .dead, .dead, .dead, .dead, .dead, .dead, .dead, .dead, .dead, .dead, .dead, .dead, .dead, .dead, .dead, .dead, .dead, .dead, .dead, .dead, .dead, .dead, .dead, .dead, .dead, .dead, .dead, .dead, .dead] []) (fun l0n l0 n1 last2 obj0 obj1_0_0 obj1_0_1 obj2 => k (.exit 0) [(.lst 2 l0n l0), (.v (.int .i64 n1)), (.v (.int .i64 last2)), .dead, .dead, .dead, .dead, (.own 0 1 0 none), (.own 2 1 0 none), .dead, .dead, .dead, .dead, .dead, .dead, .dead, .dead, .dead, .dead, .dead, .dead, .dead, .dead, .dead, .dead, .dead, .dead, .dead, .dead, .dead, .dead, .dead, .dead, .dead, .dead, .dead, .dead, .dead, .dead, .dead, .dead, .dead, .dead, .dead, .dead, .dead, .dead, .dead, .dead, .dead, .dead, .dead, .dead, .dead, .dead, .dead, .dead, .dead, .dead, .dead, .dead, .dead, .dead, .dead, .dead, .dead, .dead, .dead, .dead, .dead, .dead, .dead, .dead, .dead, .dead, .dead, .dead, .dead, .dead, .dead, .dead, .dead, .dead, .dead] [⟨obj0, 1, 0, true, false, 25, 2, none⟩, ⟨[(.agg [(.v (.int .i64 obj1_0_0)), (.v (.int .i64 obj1_0_1))])], 1, 0, true, true, 25, 2, none⟩, ⟨obj2, 1, 0, true, false, 25, 2, none⟩])

def Flaw09_UidsTurned_0 (llaw09_UidsTurned_0 : Slaw09_UidsTurned_0 → Option Olaw09_UidsTurned_0) : LoopF := ⟨fun e h k => match Nat.beq e.length 84 with
  | true => (match e.getD 0 .dead, e.getD 1 .dead, e.getD 2 .dead, e.getD 7 .dead, e.getD 8 .dead, e.getD 9 .dead, h with
    | (.lst 2 l0n l0), (.v (.int .i64 n1)), (.v (.int .i64 last2)), (.lst 2 true []), (.lst 2 true []), (.v (.int .i64 i9)), [] => optK (llaw09_UidsTurned_0 (.s0 l0n l0 n1 last2 i9)) (Tlaw09_UidsTurned_0 k)
    | _, _, _, _, _, _, _ => none)
  | false => none⟩

def cllaw09_UidsTurned_0 : List Tmp := [3, 4, 5, 6, 10, 11, 12, 13, 14, 15, 16, 17, 18, 19, 20, 21, 22, 23, 24, 25, 26, 27, 28, 29, 30, 31, 32, 33, 34, 35, 36, 37, 38, 39, 40, 41, 42, 43, 44, 45, 46, 47, 48, 49, 50, 51, 52, 53, 54, 55, 56, 57, 58, 59, 60, 61, 62, 63, 64, 65, 66, 67, 68, 69, 70, 71, 72, 73, 74, 75, 76, 77, 78, 79, 80, 81, 82, 83]
def clolaw09_UidsTurned_0 : List Tmp := [3, 4, 5, 6, 9, 10, 11, 12, 13, 14, 15, 16, 17, 18, 19, 20, 21, 22, 23, 24, 25, 26, 27, 28, 29, 30, 31, 32, 33, 34, 35, 36, 37, 38, 39, 40, 41, 42, 43, 44, 45, 46, 47, 48, 49, 50, 51, 52, 53, 54, 55, 56, 57, 58, 59, 60, 61, 62, 63, 64, 65, 66, 67, 68, 69, 70, 71, 72, 73, 74, 75, 76, 77, 78, 79, 80, 81, 82, 83]

noncomputable def Rlaw09_UidsTurned_0 {β : Type} (K : PureK) (d : Olaw09_UidsTurned_0 → Option β) (r : Slaw09_UidsTurned_0 → Option β) : Slaw09_UidsTurned_0 → Option β
  | .s0 l0n l0 n1 last2 i9 =>
    br (decide (i9 < ((l0.length : Nat) : Int)))
      (br (decide (0 ≤ i9))
        (br (decide (i9 < ((l0.length : Nat) : Int)))
          (optK l0[i9.toNat]? fun wv1 =>
          Ab.asAgg wv1 2 fun wg2 =>
          Ab.asInt (wg2 0) .i64 fun wn3 =>
          Ab.asInt (wg2 1) .i64 fun wn4 =>
          br (decide (0 ≤ i9))
            (br (decide (i9 < ((l0.length : Nat) : Int)))
              (optK l0[i9.toNat]? fun wv5 =>
              Ab.asAgg wv5 2 fun wg6 =>
              Ab.asInt (wg6 0) .i64 fun wn7 =>
              Ab.asInt (wg6 1) .i64 fun wn8 =>
              br (decide (0 ≤ i9))
                (br (decide (i9 < ((l0.length : Nat) : Int)))
                  (optK l0[i9.toNat]? fun wv9 =>
                  Ab.asAgg wv9 2 fun wg10 =>
                  Ab.asInt (wg10 0) .i64 fun wn11 =>
                  Ab.asInt (wg10 1) .i64 fun wn12 =>
                  br (wn11 == 0)
                    (br (wn12 == 0)
                      (r (.s1 l0n l0 n1 last2 (w64 (i9 + 1)) [AV.agg [iv wn4, iv wn7]] last2 last2 [AV.agg [iv last2, iv last2]]))
                      (r (.s1 l0n l0 n1 last2 (w64 (i9 + 1)) [AV.agg [iv wn4, iv wn7]] last2 wn12 [AV.agg [iv last2, iv wn12]])))
                    (br (wn12 == 0)
                      (r (.s1 l0n l0 n1 last2 (w64 (i9 + 1)) [AV.agg [iv wn4, iv wn7]] wn11 last2 [AV.agg [iv wn11, iv last2]]))
                      (r (.s1 l0n l0 n1 last2 (w64 (i9 + 1)) [AV.agg [iv wn4, iv wn7]] wn11 wn12 [AV.agg [iv wn11, iv wn12]]))))
                  (none))
                (none))
              (none))
            (none))
          (none))
        (none))
      (d (.x0 l0n l0 n1 last2))
  | .s1 l0n l0 n1 last2 i9 obj0 obj1_0_0 obj1_0_1 obj2 =>
    br (decide (i9 < ((l0.length : Nat) : Int)))
      (br (decide (0 ≤ i9))
        (br (decide (i9 < ((l0.length : Nat) : Int)))
          (optK l0[i9.toNat]? fun wv13 =>
          Ab.asAgg wv13 2 fun wg14 =>
          Ab.asInt (wg14 0) .i64 fun wn15 =>
          Ab.asInt (wg14 1) .i64 fun wn16 =>
          br (decide (0 ≤ i9))
            (br (decide (i9 < ((l0.length : Nat) : Int)))
              (optK l0[i9.toNat]? fun wv17 =>
              Ab.asAgg wv17 2 fun wg18 =>
              Ab.asInt (wg18 0) .i64 fun wn19 =>
              Ab.asInt (wg18 1) .i64 fun wn20 =>
              br (lenOk (obj0.length + [AV.agg [iv wn16, iv wn19]].length) 16 && lenOk (obj0.length + [AV.agg [iv wn16, iv wn19]].length) 1)
                (br (decide (0 ≤ i9))
                  (br (decide (i9 < ((l0.length : Nat) : Int)))
                    (optK l0[i9.toNat]? fun wv21 =>
                    Ab.asAgg wv21 2 fun wg22 =>
                    Ab.asInt (wg22 0) .i64 fun wn23 =>
                    Ab.asInt (wg22 1) .i64 fun wn24 =>
                    br (wn23 == 0)
                      (br (wn24 == 0)
                        (br (lenOk (obj2.length + [AV.agg [iv last2, iv last2]].length) 16 && lenOk (obj2.length + [AV.agg [iv last2, iv last2]].length) 1)
                          (r (.s1 l0n l0 n1 last2 (w64 (i9 + 1)) (obj0 ++ [AV.agg [iv wn16, iv wn19]]) obj1_0_0 obj1_0_1 (obj2 ++ [AV.agg [iv last2, iv last2]])))
                          (none))
                        (br (lenOk (obj2.length + [AV.agg [iv last2, iv wn24]].length) 16 && lenOk (obj2.length + [AV.agg [iv last2, iv wn24]].length) 1)
                          (r (.s1 l0n l0 n1 last2 (w64 (i9 + 1)) (obj0 ++ [AV.agg [iv wn16, iv wn19]]) obj1_0_0 obj1_0_1 (obj2 ++ [AV.agg [iv last2, iv wn24]])))
                          (none)))
                      (br (wn24 == 0)
                        (br (lenOk (obj2.length + [AV.agg [iv wn23, iv last2]].length) 16 && lenOk (obj2.length + [AV.agg [iv wn23, iv last2]].length) 1)
                          (r (.s1 l0n l0 n1 last2 (w64 (i9 + 1)) (obj0 ++ [AV.agg [iv wn16, iv wn19]]) obj1_0_0 obj1_0_1 (obj2 ++ [AV.agg [iv wn23, iv last2]])))
                          (none))
                        (br (lenOk (obj2.length + [AV.agg [iv wn23, iv wn24]].length) 16 && lenOk (obj2.length + [AV.agg [iv wn23, iv wn24]].length) 1)
                          (r (.s1 l0n l0 n1 last2 (w64 (i9 + 1)) (obj0 ++ [AV.agg [iv wn16, iv wn19]]) obj1_0_0 obj1_0_1 (obj2 ++ [AV.agg [iv wn23, iv wn24]])))
                          (none))))
                    (none))
                  (none))
                (none))
              (none))
            (none))
          (none))
        (none))
      (d (.x1 l0n l0 n1 last2 obj0 obj1_0_0 obj1_0_1 obj2))
theorem roundlaw09_UidsTurned_0 (K : PureK) {β : Type} (r : Env → Heap → Option β) (k : Ex → Env → Heap → Option β) (s : Slaw09_UidsTurned_0) : tellOne X K 0 3 0 [(0, 1, 0), (1, 1, 0), (2, 1, 0)] 0 cllaw09_UidsTurned_0 clolaw09_UidsTurned_0 r k (Elaw09_UidsTurned_0 s) (Hlaw09_UidsTurned_0 s) = Rlaw09_UidsTurned_0 K (Tlaw09_UidsTurned_0 k) (fun s => r (Elaw09_UidsTurned_0 s) (Hlaw09_UidsTurned_0 s)) s := by
  cases s <;> kernel_rfl
theorem Olaw09_UidsTurned_0.bind_k {β γ : Type} (o : Olaw09_UidsTurned_0) (c0 : Bool → (List AV) → Int → Int → Option β) (c1 : Bool → (List AV) → Int → Int → (List AV) → Int → Int → (List AV) → Option β) (φ : β → Option γ) : (Olaw09_UidsTurned_0.k o c0 c1).bind φ = Olaw09_UidsTurned_0.k o (fun l0n l0 n1 last2 => (c0 l0n l0 n1 last2).bind φ) (fun l0n l0 n1 last2 obj0 obj1_0_0 obj1_0_1 obj2 => (c1 l0n l0 n1 last2 obj0 obj1_0_0 obj1_0_1 obj2).bind φ) := by cases o <;> rfl
theorem natlaw09_UidsTurned_0 (K : PureK) {β γ : Type} (φ : β → Option γ) (d : Olaw09_UidsTurned_0 → Option β) (r : Slaw09_UidsTurned_0 → Option β) (s : Slaw09_UidsTurned_0) : Rlaw09_UidsTurned_0 K (fun o => (d o).bind φ) (fun s => (r s).bind φ) s = (Rlaw09_UidsTurned_0 K d r s).bind φ := by
  cases s <;> simp only [Rlaw09_UidsTurned_0, bind_optK, bind_br, bind_asInt, bind_asBool, bind_asStr, bind_asLst, bind_asAgg, bind_asTup, bind_asBig, bind_asErr, bind_none]
theorem outlaw09_UidsTurned_0 (o : Olaw09_UidsTurned_0) : ∃ x e' h', ∀ {β : Type} (k : Ex → Env → Heap → Option β), Tlaw09_UidsTurned_0 k o = k x e' h' := by cases o <;> exact ⟨_, _, _, fun _ => rfl⟩
theorem oklaw09_UidsTurned_0 {K : PureK} (hX : Sound X) (hK : KOk X K) {llaw09_UidsTurned_0 : Slaw09_UidsTurned_0 → Option Olaw09_UidsTurned_0} (hl : ∀ s o, llaw09_UidsTurned_0 s = some o → ∃ m, fuelRec (Rlaw09_UidsTurned_0 K some) m s = some o) (β : Type) (e : Env) (h : Heap) (k : Ex → Env → Heap → Option β) (r : β) (hr : (Flaw09_UidsTurned_0 llaw09_UidsTurned_0).run e h k = some r) : ∃ x e' h', k x e' h' = some r ∧ CodeAt X (.loop (loopBody (X).P 3 0)) e h x e' h' := by
  obtain ⟨fn, c, hin⟩ := loopIn_of (X := X) (f := 3) (i := 0) (key := 7) (by kernel_rfl)
  simp only [Flaw09_UidsTurned_0] at hr
  split at hr
  · rename_i hlen
    have hlen := Nat.eq_of_beq_eq_true hlen
    split at hr
    · rename_i q0 q1 q2 q7 q8 q9
      obtain ⟨o, ho, hr⟩ := optK_some hr
      refine tell_ok hX (KOk.congr (X := X) (Y := X) rfl rfl hK) hin (E := Elaw09_UidsTurned_0) (H := Hlaw09_UidsTurned_0) (R := fun d r => Rlaw09_UidsTurned_0 K d r) (T := Tlaw09_UidsTurned_0) (ts := [(0, 1, 0), (1, 1, 0), (2, 1, 0)]) (len := 0) (cl := cllaw09_UidsTurned_0) (clo := clolaw09_UidsTurned_0) (roundlaw09_UidsTurned_0 K) (natlaw09_UidsTurned_0 K) outlaw09_UidsTurned_0 (hl _ _ ho) (cl0 := cllaw09_UidsTurned_0) (ts0 := []) ?_ rfl (by kernel_rfl) (by kernel_rfl) hr
      rw [clear_lit e 84 hlen, show clearEnv cllaw09_UidsTurned_0 ((List.range 84).map fun i => e.getD i .dead) = [e.getD 0 .dead, e.getD 1 .dead, e.getD 2 .dead, .dead, .dead, .dead, .dead, e.getD 7 .dead, e.getD 8 .dead, e.getD 9 .dead, .dead, .dead, .dead, .dead, .dead, .dead, .dead, .dead, .dead, .dead, .dead, .dead, .dead, .dead, .dead, .dead, .dead, .dead, .dead, .dead, .dead, .dead, .dead, .dead, .dead, .dead, .dead, .dead, .dead, .dead, .dead, .dead, .dead, .dead, .dead, .dead, .dead, .dead, .dead, .dead, .dead, .dead, .dead, .dead, .dead, .dead, .dead, .dead, .dead, .dead, .dead, .dead, .dead, .dead, .dead, .dead, .dead, .dead, .dead, .dead, .dead, .dead, .dead, .dead, .dead, .dead, .dead, .dead, .dead, .dead, .dead, .dead, .dead, .dead] from by kernel_rfl]; rw [q0, q1, q2, q7, q8, q9]
      kernel_rfl
    · cases hr
  · cases hr
noncomputable def Rlaw09_UidsTurned (K : PureK) (llaw09_UidsTurned_0 : Slaw09_UidsTurned_0 → Option Olaw09_UidsTurned_0) (l0n : Bool) (l0 : List AV) (n1 : Int) (last2 : Int) : Option AV :=
  optK (K f_law09_alive []) fun wv5 =>
    Ab.asBool wv5 fun wb6 =>
    br (!wb6)
      (some (bv false))
      (optK (br (decide (((l0.length : Nat) : Int) > 200))
          (some (bv true))
          (some (bv (decide (last2 < 1))))) fun wv7 =>
      Ab.asBool wv7 fun wb8 =>
      br wb8
        (some (bv true))
        (optK (llaw09_UidsTurned_0 (Slaw09_UidsTurned_0.s0 l0n l0 n1 last2 0)) fun wo9 => Olaw09_UidsTurned_0.k wo9
          (fun (l0n_10 : Bool) (l0_10 : List AV) (n1_10 : Int) (last2_10 : Int) => optK (K f_uids_Has [AV.lst 2 l0n_10 l0_10, iv n1_10, iv last2_10]) fun wv11 =>
          Ab.asBool wv11 fun wb12 =>
          optK (K f_uids_Has [AV.lst 2 true [], iv n1_10, iv last2_10]) fun wv13 =>
          Ab.asBool wv13 fun wb14 =>
          br (wb14 == wb12)
            (optK (K f_uids_Has [AV.lst 2 true [], iv n1_10, iv last2_10]) fun wv15 =>
            Ab.asBool wv15 fun wb16 =>
            br (wb16 == wb12)
              (optK (K f_uids_Has [AV.lst 2 true [], iv n1_10, iv 7]) fun wv17 =>
              Ab.asBool wv17 fun wb18 =>
              some (bv (wb18 == wb12)))
              (some (bv false)))
            (some (bv false)))
          (fun (l0n_19 : Bool) (l0_19 : List AV) (n1_19 : Int) (last2_19 : Int) (obj0_19 : List AV) (obj1_0_0_19 : Int) (obj1_0_1_19 : Int) (obj2_19 : List AV) => optK (K f_uids_Has [AV.lst 2 l0n_19 l0_19, iv n1_19, iv last2_19]) fun wv20 =>
          Ab.asBool wv20 fun wb21 =>
          optK (K f_uids_Has [AV.lst 2 false obj0_19, iv n1_19, iv last2_19]) fun wv22 =>
          Ab.asBool wv22 fun wb23 =>
          br (wb23 == wb21)
            (optK (K f_uids_Has [AV.lst 2 false obj2_19, iv n1_19, iv last2_19]) fun wv24 =>
            Ab.asBool wv24 fun wb25 =>
            br (wb25 == wb21)
              (optK (K f_uids_Has [AV.lst 2 false obj2_19, iv n1_19, iv 7]) fun wv26 =>
              Ab.asBool wv26 fun wb27 =>
              some (bv (wb27 == wb21)))
              (some (bv false)))
            (some (bv false)))))
theorem toplaw09_UidsTurned (K : PureK) (llaw09_UidsTurned_0 : Slaw09_UidsTurned_0 → Option Olaw09_UidsTurned_0) (l0n : Bool) (l0 : List AV) (n1 : Int) (last2 : Int) : topK (addLp X 3 7 (Flaw09_UidsTurned_0 llaw09_UidsTurned_0)) K 0 f_law09_UidsTurned [(.lst 2 l0n l0), (.v (.int .i64 n1)), (.v (.int .i64 last2))] = Rlaw09_UidsTurned K llaw09_UidsTurned_0 l0n l0 n1 last2 := by kernel_rfl
theorem pclaw09_UidsTurned {K : PureK} (hK : KOk X K) {llaw09_UidsTurned_0 : Slaw09_UidsTurned_0 → Option Olaw09_UidsTurned_0} (hlaw09_UidsTurned_0 : ∀ s o, llaw09_UidsTurned_0 s = some o → ∃ m, fuelRec (Rlaw09_UidsTurned_0 K some) m s = some o) {l0n : Bool} {l0 : List AV} {n1 : Int} {last2 : Int} {v : AV} (h : Rlaw09_UidsTurned K llaw09_UidsTurned_0 l0n l0 n1 last2 = some v) : PureCall X f_law09_UidsTurned [(.lst 2 l0n l0), (.v (.int .i64 n1)), (.v (.int .i64 last2))] v := by
  have hSo0 := soundX
  obtain ⟨_, _, hin0⟩ := loopIn_of (X := X) (f := 3) (i := 0) (key := 7) (by kernel_rfl)
  have hSo1 := sound_add hSo0 hin0 (oklaw09_UidsTurned_0 hSo0 hK hlaw09_UidsTurned_0)
  exact tell_top (X := X) (Y := (addLp X 3 7 (Flaw09_UidsTurned_0 llaw09_UidsTurned_0))) rfl rfl hSo1 hK ((toplaw09_UidsTurned K llaw09_UidsTurned_0 l0n l0 n1 last2).trans h)

end Go.Proofs.YtckbjhmiopjlkaaDoor
