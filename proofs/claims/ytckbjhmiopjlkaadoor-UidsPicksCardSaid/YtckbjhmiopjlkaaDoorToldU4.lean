import Derived.Test.YtckbjhmiopjlkaaDoorCtx
set_option maxRecDepth 100000
set_option linter.unusedVariables false
set_option linter.unusedSimpArgs false
namespace Go.Proofs.YtckbjhmiopjlkaaDoor
open Go Go.Ab
abbrev f_uids_Pick__n : FuncId := 13
/-! 13: escheat/uids.Pick -/
inductive Suids_Pick__n_slices_IndexFunc_int_int_0 where
  | s0 (t7 : Int) (t8 : Int) (obj0_0n : Bool) (obj0_0 : List AV) (obj1_0 : List AV) (obj2 : List AV)

inductive Ouids_Pick__n_slices_IndexFunc_int_int_0 where
  | x0 (t4 : Int) (obj0_0n : Bool) (obj0_0 : List AV) (obj1_0 : List AV) (obj2 : List AV)
  | x1 (obj0_0n : Bool) (obj0_0 : List AV) (obj1_0 : List AV) (obj2 : List AV)

def Ouids_Pick__n_slices_IndexFunc_int_int_0.k {β : Type} (o : Ouids_Pick__n_slices_IndexFunc_int_int_0) (c0 : Int → Bool → (List AV) → (List AV) → (List AV) → Option β) (c1 : Bool → (List AV) → (List AV) → (List AV) → Option β) : Option β := match o with
  | .x0 t4 obj0_0n obj0_0 obj1_0 obj2 => c0 t4 obj0_0n obj0_0 obj1_0 obj2
  | .x1 obj0_0n obj0_0 obj1_0 obj2 => c1 obj0_0n obj0_0 obj1_0 obj2

def Euids_Pick__n_slices_IndexFunc_int_int_0 : Suids_Pick__n_slices_IndexFunc_int_int_0 → Env
  | .s0 t7 t8 obj0_0n obj0_0 obj1_0 obj2 => [(.own 2 1 0 none), (.fn (.func 29) [] [(.ptr 0 0 0 0), (.ptr 1 0 0 0)]), .dead, .dead, .dead, .dead, .dead, (.v (.int .i64 t7)), (.v (.int .i64 t8)), .dead, .dead, .dead, .dead, .dead, .dead, .dead, .dead, .dead, .dead]

def Huids_Pick__n_slices_IndexFunc_int_int_0 : Suids_Pick__n_slices_IndexFunc_int_int_0 → Heap
  | .s0 t7 t8 obj0_0n obj0_0 obj1_0 obj2 => [⟨[(.lst 2 obj0_0n obj0_0)], 0, 0, true, true, 22, 1, none⟩, ⟨[(.lst 1 false obj1_0)], 0, 0, true, true, 27, 1, none⟩, ⟨obj2, 1, 0, true, false, 3, 1, none⟩]

def Tuids_Pick__n_slices_IndexFunc_int_int_0 {β : Type} (k : Ex → Env → Heap → Option β) (o : Ouids_Pick__n_slices_IndexFunc_int_int_0) : Option β := Ouids_Pick__n_slices_IndexFunc_int_int_0.k o (fun t4 obj0_0n obj0_0 obj1_0 obj2 => k .ret [.dead, .dead, .dead, .dead, (.v (.int .i64 t4)), .dead, .dead, .dead, .dead, .dead, .dead, .dead, .dead, .dead, .dead, .dead, .dead, .dead, .dead] [⟨[(.lst 2 obj0_0n obj0_0)], 0, 0, true, true, 22, 1, none⟩, ⟨[(.lst 1 false obj1_0)], 0, 0, true, true, 27, 1, none⟩, ⟨obj2, 1, 0, true, false, 3, 1, none⟩]) (fun obj0_0n obj0_0 obj1_0 obj2 => k (.exit 0) [.dead, .dead, .dead, .dead, .dead, .dead, .dead, .dead, .dead, .dead, .dead, .dead, .dead, .dead, .dead, .dead, .dead, .dead, .dead] [⟨[(.lst 2 obj0_0n obj0_0)], 0, 0, true, true, 22, 1, none⟩, ⟨[(.lst 1 false obj1_0)], 0, 0, true, true, 27, 1, none⟩, ⟨obj2, 1, 0, true, false, 3, 1, none⟩])

def Fuids_Pick__n_slices_IndexFunc_int_int_0 (luids_Pick__n_slices_IndexFunc_int_int_0 : Suids_Pick__n_slices_IndexFunc_int_int_0 → Option Ouids_Pick__n_slices_IndexFunc_int_int_0) : LoopF := ⟨fun e h k => match Nat.beq e.length 19 with
  | true => (match e.getD 0 .dead, e.getD 1 .dead, e.getD 7 .dead, e.getD 8 .dead, h with
    | (.own 2 1 0 none), (.fn (.func 29) [] [(.ptr 0 0 0 0), (.ptr 1 0 0 0)]), (.v (.int .i64 t7)), (.v (.int .i64 t8)), [⟨[(.lst 2 obj0_0n obj0_0)], 0, 0, true, true, 22, 1, none⟩, ⟨[(.lst 1 false obj1_0)], 0, 0, true, true, 27, 1, none⟩, ⟨obj2, 1, 0, true, false, 3, 1, none⟩] => optK (luids_Pick__n_slices_IndexFunc_int_int_0 (.s0 t7 t8 obj0_0n obj0_0 obj1_0 obj2)) (Tuids_Pick__n_slices_IndexFunc_int_int_0 k)
    | _, _, _, _, _ => none)
  | false => none⟩

def cluids_Pick__n_slices_IndexFunc_int_int_0 : List Tmp := [2, 3, 4, 5, 6, 9, 10, 11, 12, 13, 14, 15, 16, 17, 18]
def clouids_Pick__n_slices_IndexFunc_int_int_0 : List Tmp := [0, 1, 2, 3, 5, 6, 7, 8, 9, 10, 11, 12, 13, 14, 15, 16, 17, 18]

noncomputable def Ruids_Pick__n_slices_IndexFunc_int_int_0 {β : Type} (K : PureK) (d : Ouids_Pick__n_slices_IndexFunc_int_int_0 → Option β) (r : Suids_Pick__n_slices_IndexFunc_int_int_0 → Option β) : Suids_Pick__n_slices_IndexFunc_int_int_0 → Option β
  | .s0 t7 t8 obj0_0n obj0_0 obj1_0 obj2 =>
    br (decide (t8 < t7))
      (br (decide (0 ≤ t8))
        (br (decide (t8 < ((obj2.length : Nat) : Int)))
          (optK (obj2[0 + t8.toNat]?) fun wv1 =>
          Ab.asInt wv1 .i64 fun wn2 =>
          br (decide (0 ≤ w64 (((obj1_0.length : Nat) : Int) - 1)))
            (br (decide (w64 (((obj1_0.length : Nat) : Int) - 1) < ((obj1_0.length : Nat) : Int)))
              (optK (obj1_0[(w64 (((obj1_0.length : Nat) : Int) - 1)).toNat]?) fun wv3 =>
              Ab.asInt wv3 .i64 fun wn4 =>
              optK (K f_uids_Has [AV.lst 2 obj0_0n obj0_0, iv wn2, iv wn4]) fun wv5 =>
              Ab.asBool wv5 fun wb6 =>
              br (!wb6)
                (d (.x0 t8 obj0_0n obj0_0 obj1_0 obj2))
                (r (.s0 t7 (w64 (t8 + 1)) obj0_0n obj0_0 obj1_0 obj2)))
              (none))
            (none))
          (none))
        (none))
      (d (.x1 obj0_0n obj0_0 obj1_0 obj2))
theorem rounduids_Pick__n_slices_IndexFunc_int_int_0 (K : PureK) {β : Type} (r : Env → Heap → Option β) (k : Ex → Env → Heap → Option β) (s : Suids_Pick__n_slices_IndexFunc_int_int_0) : tellOne X K 0 41 0 [(3, 1, 0), (4, 1, 0), (5, 1, 0)] 3 cluids_Pick__n_slices_IndexFunc_int_int_0 clouids_Pick__n_slices_IndexFunc_int_int_0 r k (Euids_Pick__n_slices_IndexFunc_int_int_0 s) (Huids_Pick__n_slices_IndexFunc_int_int_0 s) = Ruids_Pick__n_slices_IndexFunc_int_int_0 K (Tuids_Pick__n_slices_IndexFunc_int_int_0 k) (fun s => r (Euids_Pick__n_slices_IndexFunc_int_int_0 s) (Huids_Pick__n_slices_IndexFunc_int_int_0 s)) s := by
  cases s <;> kernel_rfl
theorem Ouids_Pick__n_slices_IndexFunc_int_int_0.bind_k {β γ : Type} (o : Ouids_Pick__n_slices_IndexFunc_int_int_0) (c0 : Int → Bool → (List AV) → (List AV) → (List AV) → Option β) (c1 : Bool → (List AV) → (List AV) → (List AV) → Option β) (φ : β → Option γ) : (Ouids_Pick__n_slices_IndexFunc_int_int_0.k o c0 c1).bind φ = Ouids_Pick__n_slices_IndexFunc_int_int_0.k o (fun t4 obj0_0n obj0_0 obj1_0 obj2 => (c0 t4 obj0_0n obj0_0 obj1_0 obj2).bind φ) (fun obj0_0n obj0_0 obj1_0 obj2 => (c1 obj0_0n obj0_0 obj1_0 obj2).bind φ) := by cases o <;> rfl
theorem natuids_Pick__n_slices_IndexFunc_int_int_0 (K : PureK) {β γ : Type} (φ : β → Option γ) (d : Ouids_Pick__n_slices_IndexFunc_int_int_0 → Option β) (r : Suids_Pick__n_slices_IndexFunc_int_int_0 → Option β) (s : Suids_Pick__n_slices_IndexFunc_int_int_0) : Ruids_Pick__n_slices_IndexFunc_int_int_0 K (fun o => (d o).bind φ) (fun s => (r s).bind φ) s = (Ruids_Pick__n_slices_IndexFunc_int_int_0 K d r s).bind φ := by
  cases s <;> simp only [Ruids_Pick__n_slices_IndexFunc_int_int_0, bind_optK, bind_br, bind_asInt, bind_asBool, bind_asStr, bind_asLst, bind_asAgg, bind_asTup, bind_asBig, bind_asErr, bind_none]
theorem outuids_Pick__n_slices_IndexFunc_int_int_0 (o : Ouids_Pick__n_slices_IndexFunc_int_int_0) : ∃ x e' h', ∀ {β : Type} (k : Ex → Env → Heap → Option β), Tuids_Pick__n_slices_IndexFunc_int_int_0 k o = k x e' h' := by cases o <;> exact ⟨_, _, _, fun _ => rfl⟩
theorem okuids_Pick__n_slices_IndexFunc_int_int_0 {K : PureK} (hX : Sound X) (hK : KOk X K) {luids_Pick__n_slices_IndexFunc_int_int_0 : Suids_Pick__n_slices_IndexFunc_int_int_0 → Option Ouids_Pick__n_slices_IndexFunc_int_int_0} (hl : ∀ s o, luids_Pick__n_slices_IndexFunc_int_int_0 s = some o → ∃ m, fuelRec (Ruids_Pick__n_slices_IndexFunc_int_int_0 K some) m s = some o) (β : Type) (e : Env) (h : Heap) (k : Ex → Env → Heap → Option β) (r : β) (hr : (Fuids_Pick__n_slices_IndexFunc_int_int_0 luids_Pick__n_slices_IndexFunc_int_int_0).run e h k = some r) : ∃ x e' h', k x e' h' = some r ∧ CodeAt X (.loop (loopBody (X).P 41 0)) e h x e' h' := by
  obtain ⟨fn, c, hin⟩ := loopIn_of (X := X) (f := 41) (i := 0) (key := 2) (by kernel_rfl)
  simp only [Fuids_Pick__n_slices_IndexFunc_int_int_0] at hr
  split at hr
  · rename_i hlen
    have hlen := Nat.eq_of_beq_eq_true hlen
    split at hr
    · rename_i q0 q1 q7 q8
      obtain ⟨o, ho, hr⟩ := optK_some hr
      refine tell_ok hX (KOk.congr (X := X) (Y := X) rfl rfl hK) hin (E := Euids_Pick__n_slices_IndexFunc_int_int_0) (H := Huids_Pick__n_slices_IndexFunc_int_int_0) (R := fun d r => Ruids_Pick__n_slices_IndexFunc_int_int_0 K d r) (T := Tuids_Pick__n_slices_IndexFunc_int_int_0) (ts := [(3, 1, 0), (4, 1, 0), (5, 1, 0)]) (len := 3) (cl := cluids_Pick__n_slices_IndexFunc_int_int_0) (clo := clouids_Pick__n_slices_IndexFunc_int_int_0) (rounduids_Pick__n_slices_IndexFunc_int_int_0 K) (natuids_Pick__n_slices_IndexFunc_int_int_0 K) outuids_Pick__n_slices_IndexFunc_int_int_0 (hl _ _ ho) (cl0 := cluids_Pick__n_slices_IndexFunc_int_int_0) (ts0 := []) ?_ rfl (by kernel_rfl) (by kernel_rfl) hr
      rw [clear_lit e 19 hlen, show clearEnv cluids_Pick__n_slices_IndexFunc_int_int_0 ((List.range 19).map fun i => e.getD i .dead) = [e.getD 0 .dead, e.getD 1 .dead, .dead, .dead, .dead, .dead, .dead, e.getD 7 .dead, e.getD 8 .dead, .dead, .dead, .dead, .dead, .dead, .dead, .dead, .dead, .dead, .dead] from by kernel_rfl]; rw [q0, q1, q7, q8]
      kernel_rfl
    · cases hr
  · cases hr
inductive Suids_Pick__n_slices_DeleteFunc_int_int_0 where
  | s0 (i5 : Int) (j6 : Int) (obj0_0n : Bool) (obj0_0 : List AV) (obj1_0 : List AV) (obj2 : List AV)

inductive Ouids_Pick__n_slices_DeleteFunc_int_int_0 where
  | x0 (i5 : Int) (obj0_0n : Bool) (obj0_0 : List AV) (obj1_0 : List AV) (obj2 : List AV)

def Ouids_Pick__n_slices_DeleteFunc_int_int_0.k {β : Type} (o : Ouids_Pick__n_slices_DeleteFunc_int_int_0) (c0 : Int → Bool → (List AV) → (List AV) → (List AV) → Option β) : Option β := match o with
  | .x0 i5 obj0_0n obj0_0 obj1_0 obj2 => c0 i5 obj0_0n obj0_0 obj1_0 obj2

def Euids_Pick__n_slices_DeleteFunc_int_int_0 : Suids_Pick__n_slices_DeleteFunc_int_int_0 → Env
  | .s0 i5 j6 obj0_0n obj0_0 obj1_0 obj2 => [(.own 2 1 0 none), (.fn (.func 29) [] [(.ptr 0 0 0 0), (.ptr 1 0 0 0)]), .dead, .dead, .dead, (.v (.int .i64 i5)), (.v (.int .i64 j6)), .dead, .dead, .dead, .dead, .dead, .dead, .dead, .dead, .dead, .dead, .dead, .dead, .dead, .dead, .dead, .dead, .dead, .dead, .dead, .dead, .dead, .dead, .dead, .dead, .dead, .dead, .dead, .dead, .dead, .dead, .dead, .dead, .dead, .dead, .dead]

def Huids_Pick__n_slices_DeleteFunc_int_int_0 : Suids_Pick__n_slices_DeleteFunc_int_int_0 → Heap
  | .s0 i5 j6 obj0_0n obj0_0 obj1_0 obj2 => [⟨[(.lst 2 obj0_0n obj0_0)], 0, 0, true, true, 22, 1, none⟩, ⟨[(.lst 1 false obj1_0)], 0, 0, true, true, 27, 1, none⟩, ⟨obj2, 1, 0, true, false, 3, 1, none⟩]

def Tuids_Pick__n_slices_DeleteFunc_int_int_0 {β : Type} (k : Ex → Env → Heap → Option β) (o : Ouids_Pick__n_slices_DeleteFunc_int_int_0) : Option β := Ouids_Pick__n_slices_DeleteFunc_int_int_0.k o (fun i5 obj0_0n obj0_0 obj1_0 obj2 => k (.exit 0) [(.own 2 1 0 none), .dead, .dead, .dead, .dead, (.v (.int .i64 i5)), .dead, .dead, .dead, .dead, .dead, .dead, .dead, .dead, .dead, .dead, .dead, .dead, .dead, .dead, .dead, .dead, .dead, .dead, .dead, .dead, .dead, .dead, .dead, .dead, .dead, .dead, .dead, .dead, .dead, .dead, .dead, .dead, .dead, .dead, .dead, .dead] [⟨[(.lst 2 obj0_0n obj0_0)], 0, 0, true, true, 22, 1, none⟩, ⟨[(.lst 1 false obj1_0)], 0, 0, true, true, 27, 1, none⟩, ⟨obj2, 1, 0, true, false, 3, 1, none⟩])

def Fuids_Pick__n_slices_DeleteFunc_int_int_0 (luids_Pick__n_slices_DeleteFunc_int_int_0 : Suids_Pick__n_slices_DeleteFunc_int_int_0 → Option Ouids_Pick__n_slices_DeleteFunc_int_int_0) : LoopF := ⟨fun e h k => match Nat.beq e.length 42 with
  | true => (match e.getD 0 .dead, e.getD 1 .dead, e.getD 5 .dead, e.getD 6 .dead, h with
    | (.own 2 1 0 none), (.fn (.func 29) [] [(.ptr 0 0 0 0), (.ptr 1 0 0 0)]), (.v (.int .i64 i5)), (.v (.int .i64 j6)), [⟨[(.lst 2 obj0_0n obj0_0)], 0, 0, true, true, 22, 1, none⟩, ⟨[(.lst 1 false obj1_0)], 0, 0, true, true, 27, 1, none⟩, ⟨obj2, 1, 0, true, false, 3, 1, none⟩] => optK (luids_Pick__n_slices_DeleteFunc_int_int_0 (.s0 i5 j6 obj0_0n obj0_0 obj1_0 obj2)) (Tuids_Pick__n_slices_DeleteFunc_int_int_0 k)
    | _, _, _, _, _ => none)
  | false => none⟩

def cluids_Pick__n_slices_DeleteFunc_int_int_0 : List Tmp := [2, 3, 4, 7, 8, 9, 10, 11, 12, 13, 14, 15, 16, 17, 18, 19, 20, 21, 22, 23, 24, 25, 26, 27, 28, 29, 30, 31, 32, 33, 34, 35, 36, 37, 38, 39, 40, 41]
def clouids_Pick__n_slices_DeleteFunc_int_int_0 : List Tmp := [1, 2, 3, 4, 6, 7, 8, 9, 10, 11, 12, 13, 14, 15, 16, 17, 18, 19, 20, 21, 22, 23, 24, 25, 26, 27, 28, 29, 30, 31, 32, 33, 34, 35, 36, 37, 38, 39, 40, 41]

noncomputable def Ruids_Pick__n_slices_DeleteFunc_int_int_0 {β : Type} (K : PureK) (d : Ouids_Pick__n_slices_DeleteFunc_int_int_0 → Option β) (r : Suids_Pick__n_slices_DeleteFunc_int_int_0 → Option β) : Suids_Pick__n_slices_DeleteFunc_int_int_0 → Option β
  | .s0 i5 j6 obj0_0n obj0_0 obj1_0 obj2 =>
    br (decide (j6 < ((obj2.length : Nat) : Int)))
      (br (decide (0 ≤ j6))
        (br (decide (j6 < ((obj2.length : Nat) : Int)))
          (optK (obj2[0 + j6.toNat]?) fun wv1 =>
          Ab.asInt wv1 .i64 fun wn2 =>
          br (decide (0 ≤ w64 (((obj1_0.length : Nat) : Int) - 1)))
            (br (decide (w64 (((obj1_0.length : Nat) : Int) - 1) < ((obj1_0.length : Nat) : Int)))
              (optK (obj1_0[(w64 (((obj1_0.length : Nat) : Int) - 1)).toNat]?) fun wv3 =>
              Ab.asInt wv3 .i64 fun wn4 =>
              optK (K f_uids_Has [AV.lst 2 obj0_0n obj0_0, iv wn2, iv wn4]) fun wv5 =>
              Ab.asBool wv5 fun wb6 =>
              br (!!wb6)
                (br (decide (0 ≤ i5))
                  (br (decide (i5 < ((obj2.length : Nat) : Int)))
                    (r (.s0 (w64 (i5 + 1)) (w64 (j6 + 1)) obj0_0n obj0_0 obj1_0 (obj2.set (0 + i5.toNat) (iv wn2))))
                    (none))
                  (none))
                (r (.s0 i5 (w64 (j6 + 1)) obj0_0n obj0_0 obj1_0 obj2)))
              (none))
            (none))
          (none))
        (none))
      (d (.x0 i5 obj0_0n obj0_0 obj1_0 obj2))
theorem rounduids_Pick__n_slices_DeleteFunc_int_int_0 (K : PureK) (luids_Pick__n_slices_IndexFunc_int_int_0 : Suids_Pick__n_slices_IndexFunc_int_int_0 → Option Ouids_Pick__n_slices_IndexFunc_int_int_0) {β : Type} (r : Env → Heap → Option β) (k : Ex → Env → Heap → Option β) (s : Suids_Pick__n_slices_DeleteFunc_int_int_0) : tellOne (addLp X 41 2 (Fuids_Pick__n_slices_IndexFunc_int_int_0 luids_Pick__n_slices_IndexFunc_int_int_0)) K 0 27 0 [(3, 1, 0), (4, 1, 0), (5, 1, 0)] 3 cluids_Pick__n_slices_DeleteFunc_int_int_0 clouids_Pick__n_slices_DeleteFunc_int_int_0 r k (Euids_Pick__n_slices_DeleteFunc_int_int_0 s) (Huids_Pick__n_slices_DeleteFunc_int_int_0 s) = Ruids_Pick__n_slices_DeleteFunc_int_int_0 K (Tuids_Pick__n_slices_DeleteFunc_int_int_0 k) (fun s => r (Euids_Pick__n_slices_DeleteFunc_int_int_0 s) (Huids_Pick__n_slices_DeleteFunc_int_int_0 s)) s := by
  cases s <;> kernel_rfl
theorem Ouids_Pick__n_slices_DeleteFunc_int_int_0.bind_k {β γ : Type} (o : Ouids_Pick__n_slices_DeleteFunc_int_int_0) (c0 : Int → Bool → (List AV) → (List AV) → (List AV) → Option β) (φ : β → Option γ) : (Ouids_Pick__n_slices_DeleteFunc_int_int_0.k o c0).bind φ = Ouids_Pick__n_slices_DeleteFunc_int_int_0.k o (fun i5 obj0_0n obj0_0 obj1_0 obj2 => (c0 i5 obj0_0n obj0_0 obj1_0 obj2).bind φ) := by cases o <;> rfl
theorem natuids_Pick__n_slices_DeleteFunc_int_int_0 (K : PureK) {β γ : Type} (φ : β → Option γ) (d : Ouids_Pick__n_slices_DeleteFunc_int_int_0 → Option β) (r : Suids_Pick__n_slices_DeleteFunc_int_int_0 → Option β) (s : Suids_Pick__n_slices_DeleteFunc_int_int_0) : Ruids_Pick__n_slices_DeleteFunc_int_int_0 K (fun o => (d o).bind φ) (fun s => (r s).bind φ) s = (Ruids_Pick__n_slices_DeleteFunc_int_int_0 K d r s).bind φ := by
  cases s <;> simp only [Ruids_Pick__n_slices_DeleteFunc_int_int_0, bind_optK, bind_br, bind_asInt, bind_asBool, bind_asStr, bind_asLst, bind_asAgg, bind_asTup, bind_asBig, bind_asErr, bind_none]
theorem outuids_Pick__n_slices_DeleteFunc_int_int_0 (o : Ouids_Pick__n_slices_DeleteFunc_int_int_0) : ∃ x e' h', ∀ {β : Type} (k : Ex → Env → Heap → Option β), Tuids_Pick__n_slices_DeleteFunc_int_int_0 k o = k x e' h' := by cases o <;> exact ⟨_, _, _, fun _ => rfl⟩
theorem okuids_Pick__n_slices_DeleteFunc_int_int_0 {K : PureK} (luids_Pick__n_slices_IndexFunc_int_int_0 : Suids_Pick__n_slices_IndexFunc_int_int_0 → Option Ouids_Pick__n_slices_IndexFunc_int_int_0) (hX : Sound (addLp X 41 2 (Fuids_Pick__n_slices_IndexFunc_int_int_0 luids_Pick__n_slices_IndexFunc_int_int_0))) (hK : KOk X K) {luids_Pick__n_slices_DeleteFunc_int_int_0 : Suids_Pick__n_slices_DeleteFunc_int_int_0 → Option Ouids_Pick__n_slices_DeleteFunc_int_int_0} (hl : ∀ s o, luids_Pick__n_slices_DeleteFunc_int_int_0 s = some o → ∃ m, fuelRec (Ruids_Pick__n_slices_DeleteFunc_int_int_0 K some) m s = some o) (β : Type) (e : Env) (h : Heap) (k : Ex → Env → Heap → Option β) (r : β) (hr : (Fuids_Pick__n_slices_DeleteFunc_int_int_0 luids_Pick__n_slices_DeleteFunc_int_int_0).run e h k = some r) : ∃ x e' h', k x e' h' = some r ∧ CodeAt (addLp X 41 2 (Fuids_Pick__n_slices_IndexFunc_int_int_0 luids_Pick__n_slices_IndexFunc_int_int_0)) (.loop (loopBody ((addLp X 41 2 (Fuids_Pick__n_slices_IndexFunc_int_int_0 luids_Pick__n_slices_IndexFunc_int_int_0))).P 27 0)) e h x e' h' := by
  obtain ⟨fn, c, hin⟩ := loopIn_of (X := (addLp X 41 2 (Fuids_Pick__n_slices_IndexFunc_int_int_0 luids_Pick__n_slices_IndexFunc_int_int_0))) (f := 27) (i := 0) (key := 5) (by kernel_rfl)
  simp only [Fuids_Pick__n_slices_DeleteFunc_int_int_0] at hr
  split at hr
  · rename_i hlen
    have hlen := Nat.eq_of_beq_eq_true hlen
    split at hr
    · rename_i q0 q1 q5 q6
      obtain ⟨o, ho, hr⟩ := optK_some hr
      refine tell_ok hX (KOk.congr (X := X) (Y := (addLp X 41 2 (Fuids_Pick__n_slices_IndexFunc_int_int_0 luids_Pick__n_slices_IndexFunc_int_int_0))) rfl rfl hK) hin (E := Euids_Pick__n_slices_DeleteFunc_int_int_0) (H := Huids_Pick__n_slices_DeleteFunc_int_int_0) (R := fun d r => Ruids_Pick__n_slices_DeleteFunc_int_int_0 K d r) (T := Tuids_Pick__n_slices_DeleteFunc_int_int_0) (ts := [(3, 1, 0), (4, 1, 0), (5, 1, 0)]) (len := 3) (cl := cluids_Pick__n_slices_DeleteFunc_int_int_0) (clo := clouids_Pick__n_slices_DeleteFunc_int_int_0) (rounduids_Pick__n_slices_DeleteFunc_int_int_0 K luids_Pick__n_slices_IndexFunc_int_int_0) (natuids_Pick__n_slices_DeleteFunc_int_int_0 K) outuids_Pick__n_slices_DeleteFunc_int_int_0 (hl _ _ ho) (cl0 := cluids_Pick__n_slices_DeleteFunc_int_int_0) (ts0 := []) ?_ rfl (by kernel_rfl) (by kernel_rfl) hr
      rw [clear_lit e 42 hlen, show clearEnv cluids_Pick__n_slices_DeleteFunc_int_int_0 ((List.range 42).map fun i => e.getD i .dead) = [e.getD 0 .dead, e.getD 1 .dead, .dead, .dead, .dead, e.getD 5 .dead, e.getD 6 .dead, .dead, .dead, .dead, .dead, .dead, .dead, .dead, .dead, .dead, .dead, .dead, .dead, .dead, .dead, .dead, .dead, .dead, .dead, .dead, .dead, .dead, .dead, .dead, .dead, .dead, .dead, .dead, .dead, .dead, .dead, .dead, .dead, .dead, .dead, .dead] from by kernel_rfl]; rw [q0, q1, q5, q6]
      kernel_rfl
    · cases hr
  · cases hr
noncomputable def Ruids_Pick__n (K : PureK) (luids_Pick__n_slices_IndexFunc_int_int_0 : Suids_Pick__n_slices_IndexFunc_int_int_0 → Option Ouids_Pick__n_slices_IndexFunc_int_int_0) (luids_Pick__n_slices_DeleteFunc_int_int_0 : Suids_Pick__n_slices_DeleteFunc_int_int_0 → Option Ouids_Pick__n_slices_DeleteFunc_int_int_0) (l0n : Bool) (l0 : List AV) (nums1 : List AV) : Option AV :=
  br (lenOk (0 + nums1.length) 8 && lenOk (0 + nums1.length) 1)
      (optK (luids_Pick__n_slices_IndexFunc_int_int_0 (Suids_Pick__n_slices_IndexFunc_int_int_0.s0 (((([] ++ nums1).length : Nat) : Int)) 0 l0n l0 nums1 ([] ++ nums1))) fun wo3 => Ouids_Pick__n_slices_IndexFunc_int_int_0.k wo3
        (fun (t4_4 : Int) (obj0_0n_4 : Bool) (obj0_0_4 : List AV) (obj1_0_4 : List AV) (obj2_4 : List AV) => br (t4_4 == -1)
          (some (AV.lst 1 false obj2_4))
          (optK (luids_Pick__n_slices_DeleteFunc_int_int_0 (Suids_Pick__n_slices_DeleteFunc_int_int_0.s0 t4_4 (w64 (t4_4 + 1)) obj0_0n_4 obj0_0_4 obj1_0_4 obj2_4)) fun wo5 => Ouids_Pick__n_slices_DeleteFunc_int_int_0.k wo5 (fun (i5_6 : Int) (obj0_0n_6 : Bool) (obj0_0_6 : List AV) (obj1_0_6 : List AV) (obj2_6 : List AV) =>
          br (decide (0 ≤ i5_6))
            (br (decide (i5_6 ≤ ((obj2_6.length : Nat) : Int)))
              (br (decide (0 ≤ i5_6))
                (br (decide
  (i5_6 ≤
    Int.ofNat
      (List.take (0 + i5_6.toNat) obj2_6 ++
            List.replicate
              (match 0 + i5_6.toNat with
              | 0 => obj2_6.length
              | r => obj2_6.length - r)
              (iv 0) ++
          List.drop
            (0 + i5_6.toNat +
              match 0 + i5_6.toNat with
              | 0 => obj2_6.length
              | r => obj2_6.length - r)
            obj2_6).length))
                  (some (AV.lst 1 false
  (List.take i5_6.toNat
    (List.take (0 + i5_6.toNat) obj2_6 ++
        List.replicate
          (match 0 + i5_6.toNat with
          | 0 => obj2_6.length
          | r => obj2_6.length - r)
          (iv 0) ++
      List.drop
        (0 + i5_6.toNat +
          match 0 + i5_6.toNat with
          | 0 => obj2_6.length
          | r => obj2_6.length - r)
        obj2_6))))
                  (none))
                (none))
              (none))
            (none))))
        (fun (obj0_0n_7 : Bool) (obj0_0_7 : List AV) (obj1_0_7 : List AV) (obj2_7 : List AV) => some (AV.lst 1 false obj2_7)))
      (none)
theorem topuids_Pick__n (K : PureK) (luids_Pick__n_slices_IndexFunc_int_int_0 : Suids_Pick__n_slices_IndexFunc_int_int_0 → Option Ouids_Pick__n_slices_IndexFunc_int_int_0) (luids_Pick__n_slices_DeleteFunc_int_int_0 : Suids_Pick__n_slices_DeleteFunc_int_int_0 → Option Ouids_Pick__n_slices_DeleteFunc_int_int_0) (l0n : Bool) (l0 : List AV) (nums1 : List AV) : topK (addLp (addLp X 41 2 (Fuids_Pick__n_slices_IndexFunc_int_int_0 luids_Pick__n_slices_IndexFunc_int_int_0)) 27 5 (Fuids_Pick__n_slices_DeleteFunc_int_int_0 luids_Pick__n_slices_DeleteFunc_int_int_0)) K 0 f_uids_Pick__n [(.lst 2 l0n l0), (.lst 1 false nums1)] = Ruids_Pick__n K luids_Pick__n_slices_IndexFunc_int_int_0 luids_Pick__n_slices_DeleteFunc_int_int_0 l0n l0 nums1 := by kernel_rfl
theorem pcuids_Pick__n {K : PureK} (hK : KOk X K) {luids_Pick__n_slices_IndexFunc_int_int_0 : Suids_Pick__n_slices_IndexFunc_int_int_0 → Option Ouids_Pick__n_slices_IndexFunc_int_int_0} {luids_Pick__n_slices_DeleteFunc_int_int_0 : Suids_Pick__n_slices_DeleteFunc_int_int_0 → Option Ouids_Pick__n_slices_DeleteFunc_int_int_0} (huids_Pick__n_slices_IndexFunc_int_int_0 : ∀ s o, luids_Pick__n_slices_IndexFunc_int_int_0 s = some o → ∃ m, fuelRec (Ruids_Pick__n_slices_IndexFunc_int_int_0 K some) m s = some o) (huids_Pick__n_slices_DeleteFunc_int_int_0 : ∀ s o, luids_Pick__n_slices_DeleteFunc_int_int_0 s = some o → ∃ m, fuelRec (Ruids_Pick__n_slices_DeleteFunc_int_int_0 K some) m s = some o) {l0n : Bool} {l0 : List AV} {nums1 : List AV} {v : AV} (h : Ruids_Pick__n K luids_Pick__n_slices_IndexFunc_int_int_0 luids_Pick__n_slices_DeleteFunc_int_int_0 l0n l0 nums1 = some v) : PureCall X f_uids_Pick__n [(.lst 2 l0n l0), (.lst 1 false nums1)] v := by
  have hSo0 := soundX
  obtain ⟨_, _, hin0⟩ := loopIn_of (X := X) (f := 41) (i := 0) (key := 2) (by kernel_rfl)
  have hSo1 := sound_add hSo0 hin0 (okuids_Pick__n_slices_IndexFunc_int_int_0 hSo0 hK huids_Pick__n_slices_IndexFunc_int_int_0)
  obtain ⟨_, _, hin1⟩ := loopIn_of (X := (addLp X 41 2 (Fuids_Pick__n_slices_IndexFunc_int_int_0 luids_Pick__n_slices_IndexFunc_int_int_0))) (f := 27) (i := 0) (key := 5) (by kernel_rfl)
  have hSo2 := sound_add hSo1 hin1 (okuids_Pick__n_slices_DeleteFunc_int_int_0 luids_Pick__n_slices_IndexFunc_int_int_0 hSo1 hK huids_Pick__n_slices_DeleteFunc_int_int_0)
  exact tell_top (X := X) (Y := (addLp (addLp X 41 2 (Fuids_Pick__n_slices_IndexFunc_int_int_0 luids_Pick__n_slices_IndexFunc_int_int_0)) 27 5 (Fuids_Pick__n_slices_DeleteFunc_int_int_0 luids_Pick__n_slices_DeleteFunc_int_int_0))) rfl rfl hSo2 hK ((topuids_Pick__n K luids_Pick__n_slices_IndexFunc_int_int_0 luids_Pick__n_slices_DeleteFunc_int_int_0 l0n l0 nums1).trans h)

abbrev f_uids_Pick__z : FuncId := 13
/-! 13: escheat/uids.Pick -/
inductive Suids_Pick__z_slices_IndexFunc_int_int_0 where
  | s0 (t7 : Int) (t8 : Int) (obj0_0n : Bool) (obj0_0 : List AV)

inductive Ouids_Pick__z_slices_IndexFunc_int_int_0 where
  | x0 (obj0_0n : Bool) (obj0_0 : List AV)

def Ouids_Pick__z_slices_IndexFunc_int_int_0.k {β : Type} (o : Ouids_Pick__z_slices_IndexFunc_int_int_0) (c0 : Bool → (List AV) → Option β) : Option β := match o with
  | .x0 obj0_0n obj0_0 => c0 obj0_0n obj0_0

def Euids_Pick__z_slices_IndexFunc_int_int_0 : Suids_Pick__z_slices_IndexFunc_int_int_0 → Env
  | .s0 t7 t8 obj0_0n obj0_0 => [(.lst 1 true []), (.fn (.func 29) [] [(.ptr 0 0 0 0), (.ptr 1 0 0 0)]), .dead, .dead, .dead, .dead, .dead, (.v (.int .i64 t7)), (.v (.int .i64 t8)), .dead, .dead, .dead, .dead, .dead, .dead, .dead, .dead, .dead, .dead]

def Huids_Pick__z_slices_IndexFunc_int_int_0 : Suids_Pick__z_slices_IndexFunc_int_int_0 → Heap
  | .s0 t7 t8 obj0_0n obj0_0 => [⟨[(.lst 2 obj0_0n obj0_0)], 0, 0, true, true, 22, 1, none⟩, ⟨[(.lst 1 true [])], 0, 0, true, true, 27, 1, none⟩]

def Tuids_Pick__z_slices_IndexFunc_int_int_0 {β : Type} (k : Ex → Env → Heap → Option β) (o : Ouids_Pick__z_slices_IndexFunc_int_int_0) : Option β := Ouids_Pick__z_slices_IndexFunc_int_int_0.k o (fun obj0_0n obj0_0 => k (.exit 0) [.dead, .dead, .dead, .dead, .dead, .dead, .dead, .dead, .dead, .dead, .dead, .dead, .dead, .dead, .dead, .dead, .dead, .dead, .dead] [⟨[(.lst 2 obj0_0n obj0_0)], 0, 0, true, true, 22, 1, none⟩, ⟨[(.lst 1 true [])], 0, 0, true, true, 27, 1, none⟩])

def Fuids_Pick__z_slices_IndexFunc_int_int_0 (luids_Pick__z_slices_IndexFunc_int_int_0 : Suids_Pick__z_slices_IndexFunc_int_int_0 → Option Ouids_Pick__z_slices_IndexFunc_int_int_0) : LoopF := ⟨fun e h k => match Nat.beq e.length 19 with
  | true => (match e.getD 0 .dead, e.getD 1 .dead, e.getD 7 .dead, e.getD 8 .dead, h with
    | (.lst 1 true []), (.fn (.func 29) [] [(.ptr 0 0 0 0), (.ptr 1 0 0 0)]), (.v (.int .i64 t7)), (.v (.int .i64 t8)), [⟨[(.lst 2 obj0_0n obj0_0)], 0, 0, true, true, 22, 1, none⟩, ⟨[(.lst 1 true [])], 0, 0, true, true, 27, 1, none⟩] => optK (luids_Pick__z_slices_IndexFunc_int_int_0 (.s0 t7 t8 obj0_0n obj0_0)) (Tuids_Pick__z_slices_IndexFunc_int_int_0 k)
    | _, _, _, _, _ => none)
  | false => none⟩

def cluids_Pick__z_slices_IndexFunc_int_int_0 : List Tmp := [2, 3, 4, 5, 6, 9, 10, 11, 12, 13, 14, 15, 16, 17, 18]
def clouids_Pick__z_slices_IndexFunc_int_int_0 : List Tmp := [0, 1, 2, 3, 5, 6, 7, 8, 9, 10, 11, 12, 13, 14, 15, 16, 17, 18]

noncomputable def Ruids_Pick__z_slices_IndexFunc_int_int_0 {β : Type} (K : PureK) (d : Ouids_Pick__z_slices_IndexFunc_int_int_0 → Option β) (r : Suids_Pick__z_slices_IndexFunc_int_int_0 → Option β) : Suids_Pick__z_slices_IndexFunc_int_int_0 → Option β
  | .s0 t7 t8 obj0_0n obj0_0 =>
    br (decide (t8 < t7))
      (br (decide (0 ≤ t8))
        (br (decide (t8 < 0))
          (none)
          (none))
        (none))
      (d (.x0 obj0_0n obj0_0))
theorem rounduids_Pick__z_slices_IndexFunc_int_int_0 (K : PureK) {β : Type} (r : Env → Heap → Option β) (k : Ex → Env → Heap → Option β) (s : Suids_Pick__z_slices_IndexFunc_int_int_0) : tellOne X K 0 41 0 [(2, 1, 0), (3, 1, 0), (4, 1, 0)] 2 cluids_Pick__z_slices_IndexFunc_int_int_0 clouids_Pick__z_slices_IndexFunc_int_int_0 r k (Euids_Pick__z_slices_IndexFunc_int_int_0 s) (Huids_Pick__z_slices_IndexFunc_int_int_0 s) = Ruids_Pick__z_slices_IndexFunc_int_int_0 K (Tuids_Pick__z_slices_IndexFunc_int_int_0 k) (fun s => r (Euids_Pick__z_slices_IndexFunc_int_int_0 s) (Huids_Pick__z_slices_IndexFunc_int_int_0 s)) s := by
  cases s <;> kernel_rfl
theorem Ouids_Pick__z_slices_IndexFunc_int_int_0.bind_k {β γ : Type} (o : Ouids_Pick__z_slices_IndexFunc_int_int_0) (c0 : Bool → (List AV) → Option β) (φ : β → Option γ) : (Ouids_Pick__z_slices_IndexFunc_int_int_0.k o c0).bind φ = Ouids_Pick__z_slices_IndexFunc_int_int_0.k o (fun obj0_0n obj0_0 => (c0 obj0_0n obj0_0).bind φ) := by cases o <;> rfl
theorem natuids_Pick__z_slices_IndexFunc_int_int_0 (K : PureK) {β γ : Type} (φ : β → Option γ) (d : Ouids_Pick__z_slices_IndexFunc_int_int_0 → Option β) (r : Suids_Pick__z_slices_IndexFunc_int_int_0 → Option β) (s : Suids_Pick__z_slices_IndexFunc_int_int_0) : Ruids_Pick__z_slices_IndexFunc_int_int_0 K (fun o => (d o).bind φ) (fun s => (r s).bind φ) s = (Ruids_Pick__z_slices_IndexFunc_int_int_0 K d r s).bind φ := by
  cases s <;> simp only [Ruids_Pick__z_slices_IndexFunc_int_int_0, bind_optK, bind_br, bind_asInt, bind_asBool, bind_asStr, bind_asLst, bind_asAgg, bind_asTup, bind_asBig, bind_asErr, bind_none]
theorem outuids_Pick__z_slices_IndexFunc_int_int_0 (o : Ouids_Pick__z_slices_IndexFunc_int_int_0) : ∃ x e' h', ∀ {β : Type} (k : Ex → Env → Heap → Option β), Tuids_Pick__z_slices_IndexFunc_int_int_0 k o = k x e' h' := by cases o <;> exact ⟨_, _, _, fun _ => rfl⟩
theorem okuids_Pick__z_slices_IndexFunc_int_int_0 {K : PureK} (hX : Sound X) (hK : KOk X K) {luids_Pick__z_slices_IndexFunc_int_int_0 : Suids_Pick__z_slices_IndexFunc_int_int_0 → Option Ouids_Pick__z_slices_IndexFunc_int_int_0} (hl : ∀ s o, luids_Pick__z_slices_IndexFunc_int_int_0 s = some o → ∃ m, fuelRec (Ruids_Pick__z_slices_IndexFunc_int_int_0 K some) m s = some o) (β : Type) (e : Env) (h : Heap) (k : Ex → Env → Heap → Option β) (r : β) (hr : (Fuids_Pick__z_slices_IndexFunc_int_int_0 luids_Pick__z_slices_IndexFunc_int_int_0).run e h k = some r) : ∃ x e' h', k x e' h' = some r ∧ CodeAt X (.loop (loopBody (X).P 41 0)) e h x e' h' := by
  obtain ⟨fn, c, hin⟩ := loopIn_of (X := X) (f := 41) (i := 0) (key := 2) (by kernel_rfl)
  simp only [Fuids_Pick__z_slices_IndexFunc_int_int_0] at hr
  split at hr
  · rename_i hlen
    have hlen := Nat.eq_of_beq_eq_true hlen
    split at hr
    · rename_i q0 q1 q7 q8
      obtain ⟨o, ho, hr⟩ := optK_some hr
      refine tell_ok hX (KOk.congr (X := X) (Y := X) rfl rfl hK) hin (E := Euids_Pick__z_slices_IndexFunc_int_int_0) (H := Huids_Pick__z_slices_IndexFunc_int_int_0) (R := fun d r => Ruids_Pick__z_slices_IndexFunc_int_int_0 K d r) (T := Tuids_Pick__z_slices_IndexFunc_int_int_0) (ts := [(2, 1, 0), (3, 1, 0), (4, 1, 0)]) (len := 2) (cl := cluids_Pick__z_slices_IndexFunc_int_int_0) (clo := clouids_Pick__z_slices_IndexFunc_int_int_0) (rounduids_Pick__z_slices_IndexFunc_int_int_0 K) (natuids_Pick__z_slices_IndexFunc_int_int_0 K) outuids_Pick__z_slices_IndexFunc_int_int_0 (hl _ _ ho) (cl0 := cluids_Pick__z_slices_IndexFunc_int_int_0) (ts0 := []) ?_ rfl (by kernel_rfl) (by kernel_rfl) hr
      rw [clear_lit e 19 hlen, show clearEnv cluids_Pick__z_slices_IndexFunc_int_int_0 ((List.range 19).map fun i => e.getD i .dead) = [e.getD 0 .dead, e.getD 1 .dead, .dead, .dead, .dead, .dead, .dead, e.getD 7 .dead, e.getD 8 .dead, .dead, .dead, .dead, .dead, .dead, .dead, .dead, .dead, .dead, .dead] from by kernel_rfl]; rw [q0, q1, q7, q8]
      kernel_rfl
    · cases hr
  · cases hr
noncomputable def Ruids_Pick__z (K : PureK) (luids_Pick__z_slices_IndexFunc_int_int_0 : Suids_Pick__z_slices_IndexFunc_int_int_0 → Option Ouids_Pick__z_slices_IndexFunc_int_int_0) (l0n : Bool) (l0 : List AV) : Option AV :=
  optK (luids_Pick__z_slices_IndexFunc_int_int_0 (Suids_Pick__z_slices_IndexFunc_int_int_0.s0 0 0 l0n l0)) fun wo1 => Ouids_Pick__z_slices_IndexFunc_int_int_0.k wo1 (fun (obj0_0n_2 : Bool) (obj0_0_2 : List AV) =>
    some (AV.lst 1 true []))
theorem topuids_Pick__z (K : PureK) (luids_Pick__z_slices_IndexFunc_int_int_0 : Suids_Pick__z_slices_IndexFunc_int_int_0 → Option Ouids_Pick__z_slices_IndexFunc_int_int_0) (l0n : Bool) (l0 : List AV) : topK (addLp X 41 2 (Fuids_Pick__z_slices_IndexFunc_int_int_0 luids_Pick__z_slices_IndexFunc_int_int_0)) K 0 f_uids_Pick__z [(.lst 2 l0n l0), (.lst 1 true [])] = Ruids_Pick__z K luids_Pick__z_slices_IndexFunc_int_int_0 l0n l0 := by kernel_rfl
theorem pcuids_Pick__z {K : PureK} (hK : KOk X K) {luids_Pick__z_slices_IndexFunc_int_int_0 : Suids_Pick__z_slices_IndexFunc_int_int_0 → Option Ouids_Pick__z_slices_IndexFunc_int_int_0} (huids_Pick__z_slices_IndexFunc_int_int_0 : ∀ s o, luids_Pick__z_slices_IndexFunc_int_int_0 s = some o → ∃ m, fuelRec (Ruids_Pick__z_slices_IndexFunc_int_int_0 K some) m s = some o) {l0n : Bool} {l0 : List AV} {v : AV} (h : Ruids_Pick__z K luids_Pick__z_slices_IndexFunc_int_int_0 l0n l0 = some v) : PureCall X f_uids_Pick__z [(.lst 2 l0n l0), (.lst 1 true [])] v := by
  have hSo0 := soundX
  obtain ⟨_, _, hin0⟩ := loopIn_of (X := X) (f := 41) (i := 0) (key := 2) (by kernel_rfl)
  have hSo1 := sound_add hSo0 hin0 (okuids_Pick__z_slices_IndexFunc_int_int_0 hSo0 hK huids_Pick__z_slices_IndexFunc_int_int_0)
  exact tell_top (X := X) (Y := (addLp X 41 2 (Fuids_Pick__z_slices_IndexFunc_int_int_0 luids_Pick__z_slices_IndexFunc_int_int_0))) rfl rfl hSo1 hK ((topuids_Pick__z K luids_Pick__z_slices_IndexFunc_int_int_0 l0n l0).trans h)

end Go.Proofs.YtckbjhmiopjlkaaDoor
