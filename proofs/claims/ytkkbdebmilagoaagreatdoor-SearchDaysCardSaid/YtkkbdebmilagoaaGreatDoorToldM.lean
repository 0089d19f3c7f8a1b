import Derived.Test.YtkkbdebmilagoaaGreatDoorSeX
set_option maxRecDepth 100000
set_option linter.unusedVariables false
set_option linter.unusedSimpArgs false
namespace Go.Proofs.YtkkbdebmilagoaaGreatDoor
open Go Go.Ab
section
variable {m : Int}
/-! 11: escheat/search.Find -/
inductive Ssearch_Find_0 where
  | s0 (l1n : Bool) (l1 : List AV) (n6 : Int) (t13n : Bool) (t13 : List AV) (t14 : Int) (t15 : Int) (obj0_0_0 : ByteArray) (obj0_0_1 : Int) (obj0_0_2 : Int) (obj0_0_3n : Bool) (obj0_0_3 : List AV)
  | s1 (l1n : Bool) (l1 : List AV) (n6 : Int) (t13n : Bool) (t13 : List AV) (t14 : Int) (t15 : Int) (obj0_0_0 : ByteArray) (obj0_0_1 : Int) (obj0_0_2 : Int) (obj0_0_3n : Bool) (obj0_0_3 : List AV) (obj1_0_0 : Int) (obj1_0_1 : Int) (obj1_0_2 : Int) (obj1_0_3n : Bool) (obj1_0_3 : List AV) (obj2 : List AV)

inductive Osearch_Find_0 where
  | x0 (obj0_0_0 : ByteArray) (obj0_0_1 : Int) (obj0_0_2 : Int) (obj0_0_3n : Bool) (obj0_0_3 : List AV)
  | x1 (obj0_0_0 : ByteArray) (obj0_0_1 : Int) (obj0_0_2 : Int) (obj0_0_3n : Bool) (obj0_0_3 : List AV) (obj1_0_0 : Int) (obj1_0_1 : Int) (obj1_0_2 : Int) (obj1_0_3n : Bool) (obj1_0_3 : List AV) (obj2 : List AV)

def Osearch_Find_0.k {β : Type} (o : Osearch_Find_0) (c0 : ByteArray → Int → Int → Bool → (List AV) → Option β) (c1 : ByteArray → Int → Int → Bool → (List AV) → Int → Int → Int → Bool → (List AV) → (List AV) → Option β) : Option β := match o with
  | .x0 obj0_0_0 obj0_0_1 obj0_0_2 obj0_0_3n obj0_0_3 => c0 obj0_0_0 obj0_0_1 obj0_0_2 obj0_0_3n obj0_0_3
  | .x1 obj0_0_0 obj0_0_1 obj0_0_2 obj0_0_3n obj0_0_3 obj1_0_0 obj1_0_1 obj1_0_2 obj1_0_3n obj1_0_3 obj2 => c1 obj0_0_0 obj0_0_1 obj0_0_2 obj0_0_3n obj0_0_3 obj1_0_0 obj1_0_1 obj1_0_2 obj1_0_3n obj1_0_3 obj2

def Esearch_Find_0 : Ssearch_Find_0 → Env
  | .s0 l1n l1 n6 t13n t13 t14 t15 obj0_0_0 obj0_0_1 obj0_0_2 obj0_0_3n obj0_0_3 => [.dead, (.lst 7 l1n l1), (.ptr 0 0 0 0), .dead, .dead, (.lst 1 true []), (.v (.int .i64 n6)), .dead, .dead, .dead, .dead, .dead, .dead, (.lst 4 t13n t13), (.v (.int .i64 t14)), (.v (.int .i64 t15)), .dead, .dead, .dead, .dead, .dead, .dead, .dead, .dead, .dead, .dead, .dead, .dead, .dead, .dead, .dead, .dead, .dead, .dead, .dead, .dead, .dead, .dead, .dead, .dead]
  | .s1 l1n l1 n6 t13n t13 t14 t15 obj0_0_0 obj0_0_1 obj0_0_2 obj0_0_3n obj0_0_3 obj1_0_0 obj1_0_1 obj1_0_2 obj1_0_3n obj1_0_3 obj2 => [.dead, (.lst 7 l1n l1), (.ptr 0 0 0 0), .dead, .dead, (.own 2 1 0 none), (.v (.int .i64 n6)), .dead, .dead, .dead, .dead, .dead, .dead, (.lst 4 t13n t13), (.v (.int .i64 t14)), (.v (.int .i64 t15)), .dead, .dead, .dead, .dead, .dead, .dead, .dead, .dead, .dead, .dead, .dead, .dead, .dead, .dead, .dead, .dead, .dead, .dead, .dead, .dead, .dead, .dead, .dead, .dead]

def Hsearch_Find_0 : Ssearch_Find_0 → Heap
  | .s0 l1n l1 n6 t13n t13 t14 t15 obj0_0_0 obj0_0_1 obj0_0_2 obj0_0_3n obj0_0_3 => [⟨[(.agg [(.v (.string obj0_0_0)), (.v (.int .i64 obj0_0_1)), (.v (.int .i64 obj0_0_2)), (.lst 4 obj0_0_3n obj0_0_3)])], 0, 0, true, true, 35, 4, none⟩]
  | .s1 l1n l1 n6 t13n t13 t14 t15 obj0_0_0 obj0_0_1 obj0_0_2 obj0_0_3n obj0_0_3 obj1_0_0 obj1_0_1 obj1_0_2 obj1_0_3n obj1_0_3 obj2 => [⟨[(.agg [(.v (.string obj0_0_0)), (.v (.int .i64 obj0_0_1)), (.v (.int .i64 obj0_0_2)), (.lst 4 obj0_0_3n obj0_0_3)])], 0, 0, true, true, 35, 4, none⟩, ⟨[(.agg [(.v (.int .i64 obj1_0_0)), (.v (.int .i64 obj1_0_1)), (.v (.int .i64 obj1_0_2)), (.lst 1 obj1_0_3n obj1_0_3)])], 1, 0, true, true, 27, 4, none⟩, ⟨obj2, 1, 0, true, false, 3, 1, none⟩]

def Tsearch_Find_0 {β : Type} (k : Ex → Env → Heap → Option β) (o : Osearch_Find_0) : Option β := Osearch_Find_0.k o (fun obj0_0_0 obj0_0_1 obj0_0_2 obj0_0_3n obj0_0_3 => k (.exit 0) [.dead, .dead, .dead, .dead, .dead, (.lst 1 true []), .dead, .dead, .dead, .dead, .dead, .dead, .dead, .dead, .dead, .dead, .dead, .dead, .dead, .dead, .dead, .dead, .dead, .dead, .dead, .dead, .dead, .dead, .dead, .dead, .dead, .dead, .dead, .dead, .dead, .dead, .dead, .dead, .dead, .dead] [⟨[(.agg [(.v (.string obj0_0_0)), (.v (.int .i64 obj0_0_1)), (.v (.int .i64 obj0_0_2)), (.lst 4 obj0_0_3n obj0_0_3)])], 0, 0, true, true, 35, 4, none⟩]) (fun obj0_0_0 obj0_0_1 obj0_0_2 obj0_0_3n obj0_0_3 obj1_0_0 obj1_0_1 obj1_0_2 obj1_0_3n obj1_0_3 obj2 => k (.exit 0) [.dead, .dead, .dead, .dead, .dead, (.own 2 1 0 none), .dead, .dead, .dead, .dead, .dead, .dead, .dead, .dead, .dead, .dead, .dead, .dead, .dead, .dead, .dead, .dead, .dead, .dead, .dead, .dead, .dead, .dead, .dead, .dead, .dead, .dead, .dead, .dead, .dead, .dead, .dead, .dead, .dead, .dead] [⟨[(.agg [(.v (.string obj0_0_0)), (.v (.int .i64 obj0_0_1)), (.v (.int .i64 obj0_0_2)), (.lst 4 obj0_0_3n obj0_0_3)])], 0, 0, true, true, 35, 4, none⟩, ⟨[(.agg [(.v (.int .i64 obj1_0_0)), (.v (.int .i64 obj1_0_1)), (.v (.int .i64 obj1_0_2)), (.lst 1 obj1_0_3n obj1_0_3)])], 1, 0, true, true, 27, 4, none⟩, ⟨obj2, 1, 0, true, false, 3, 1, none⟩])

def Fsearch_Find_0 (lsearch_Find_0 : Ssearch_Find_0 → Option Osearch_Find_0) : LoopF := ⟨fun e h k => match Nat.beq e.length 40 with
  | true => (match e.getD 1 .dead, e.getD 2 .dead, e.getD 5 .dead, e.getD 6 .dead, e.getD 13 .dead, e.getD 14 .dead, e.getD 15 .dead, h with
    | (.lst 7 l1n l1), (.ptr 0 0 0 0), (.lst 1 true []), (.v (.int .i64 n6)), (.lst 4 t13n t13), (.v (.int .i64 t14)), (.v (.int .i64 t15)), [⟨[(.agg [(.v (.string obj0_0_0)), (.v (.int .i64 obj0_0_1)), (.v (.int .i64 obj0_0_2)), (.lst 4 obj0_0_3n obj0_0_3)])], 0, 0, true, true, 35, 4, none⟩] => optK (lsearch_Find_0 (.s0 l1n l1 n6 t13n t13 t14 t15 obj0_0_0 obj0_0_1 obj0_0_2 obj0_0_3n obj0_0_3)) (Tsearch_Find_0 k)
    | _, _, _, _, _, _, _, _ => none)
  | false => none⟩

def clsearch_Find_0 : List Tmp := [0, 3, 4, 7, 8, 9, 10, 11, 12, 16, 17, 18, 19, 20, 21, 22, 23, 24, 25, 26, 27, 28, 29, 30, 31, 32, 33, 34, 35, 36, 37, 38, 39]
def closearch_Find_0 : List Tmp := [0, 1, 2, 3, 4, 6, 7, 8, 9, 10, 11, 12, 13, 14, 15, 16, 17, 18, 19, 20, 21, 22, 23, 24, 25, 26, 27, 28, 29, 30, 31, 32, 33, 34, 35, 36, 37, 38, 39]

noncomputable def Rsearch_Find_0 {β : Type} (K : PureK) (d : Osearch_Find_0 → Option β) (r : Ssearch_Find_0 → Option β) : Ssearch_Find_0 → Option β
  | .s0 l1n l1 n6 t13n t13 t14 t15 obj0_0_0 obj0_0_1 obj0_0_2 obj0_0_3n obj0_0_3 =>
    br (decide (t15 < t14))
      (br (decide (0 ≤ t15))
        (br (decide (t15 < ((t13.length : Nat) : Int)))
          (optK t13[t15.toNat]? fun wv1 =>
          Ab.asAgg wv1 4 fun wg2 =>
          Ab.asInt (wg2 0) .i64 fun wn3 =>
          Ab.asInt (wg2 1) .i64 fun wn4 =>
          Ab.asInt (wg2 2) .i64 fun wn5 =>
          Ab.asLst (wg2 3) 1 fun wb6 wr6 =>
          br (decide (0 ≤ w64 (n6 - 1)))
            (br (decide (w64 (n6 - 1) < ((obj0_0_3.length : Nat) : Int)))
              (optK (obj0_0_3[(w64 (n6 - 1)).toNat]?) fun wv7 =>
              Ab.asAgg wv7 4 fun wg8 =>
              Ab.asInt (wg8 0) .i64 fun wn9 =>
              Ab.asInt (wg8 1) .i64 fun wn10 =>
              Ab.asInt (wg8 2) .i64 fun wn11 =>
              Ab.asLst (wg8 3) 1 fun wb12 wr12 =>
              optK (K f_search_Match [AV.lst 7 l1n l1, AV.agg [iv wn3, iv wn4, iv wn5, AV.lst 1 wb6 wr6], iv (w64 (t15 + 1)), iv n6, iv wn9]) fun wv13 =>
              Ab.asBool wv13 fun wb14 =>
              br wb14
                (r (.s1 l1n l1 n6 t13n t13 t14 (w64 (t15 + 1)) obj0_0_0 obj0_0_1 obj0_0_2 obj0_0_3n obj0_0_3 wn3 wn4 wn5 wb6 wr6 [iv (w64 (t15 + 1))]))
                (r (.s0 l1n l1 n6 t13n t13 t14 (w64 (t15 + 1)) obj0_0_0 obj0_0_1 obj0_0_2 obj0_0_3n obj0_0_3)))
              (none))
            (none))
          (none))
        (none))
      (d (.x0 obj0_0_0 obj0_0_1 obj0_0_2 obj0_0_3n obj0_0_3))
  | .s1 l1n l1 n6 t13n t13 t14 t15 obj0_0_0 obj0_0_1 obj0_0_2 obj0_0_3n obj0_0_3 obj1_0_0 obj1_0_1 obj1_0_2 obj1_0_3n obj1_0_3 obj2 =>
    br (decide (t15 < t14))
      (br (decide (0 ≤ t15))
        (br (decide (t15 < ((t13.length : Nat) : Int)))
          (optK t13[t15.toNat]? fun wv15 =>
          Ab.asAgg wv15 4 fun wg16 =>
          Ab.asInt (wg16 0) .i64 fun wn17 =>
          Ab.asInt (wg16 1) .i64 fun wn18 =>
          Ab.asInt (wg16 2) .i64 fun wn19 =>
          Ab.asLst (wg16 3) 1 fun wb20 wr20 =>
          br (decide (0 ≤ w64 (n6 - 1)))
            (br (decide (w64 (n6 - 1) < ((obj0_0_3.length : Nat) : Int)))
              (optK (obj0_0_3[(w64 (n6 - 1)).toNat]?) fun wv21 =>
              Ab.asAgg wv21 4 fun wg22 =>
              Ab.asInt (wg22 0) .i64 fun wn23 =>
              Ab.asInt (wg22 1) .i64 fun wn24 =>
              Ab.asInt (wg22 2) .i64 fun wn25 =>
              Ab.asLst (wg22 3) 1 fun wb26 wr26 =>
              optK (K f_search_Match [AV.lst 7 l1n l1, AV.agg [iv wn17, iv wn18, iv wn19, AV.lst 1 wb20 wr20], iv (w64 (t15 + 1)), iv n6, iv wn23]) fun wv27 =>
              Ab.asBool wv27 fun wb28 =>
              br wb28
                (br (lenOk (obj2.length + [iv (w64 (t15 + 1))].length) 8 && lenOk (obj2.length + [iv (w64 (t15 + 1))].length) 1)
                  (r (.s1 l1n l1 n6 t13n t13 t14 (w64 (t15 + 1)) obj0_0_0 obj0_0_1 obj0_0_2 obj0_0_3n obj0_0_3 obj1_0_0 obj1_0_1 obj1_0_2 obj1_0_3n obj1_0_3 (obj2 ++ [iv (w64 (t15 + 1))])))
                  (none))
                (r (.s1 l1n l1 n6 t13n t13 t14 (w64 (t15 + 1)) obj0_0_0 obj0_0_1 obj0_0_2 obj0_0_3n obj0_0_3 obj1_0_0 obj1_0_1 obj1_0_2 obj1_0_3n obj1_0_3 obj2)))
              (none))
            (none))
          (none))
        (none))
      (d (.x1 obj0_0_0 obj0_0_1 obj0_0_2 obj0_0_3n obj0_0_3 obj1_0_0 obj1_0_1 obj1_0_2 obj1_0_3n obj1_0_3 obj2))
theorem roundsearch_Find_0 (K : PureK) {β : Type} (r : Env → Heap → Option β) (k : Ex → Env → Heap → Option β) (s : Ssearch_Find_0) : tellOne (XM m) K 0 11 0 [(1, 1, 0), (2, 1, 0), (3, 1, 0)] 1 clsearch_Find_0 closearch_Find_0 r k (Esearch_Find_0 s) (Hsearch_Find_0 s) = Rsearch_Find_0 K (Tsearch_Find_0 k) (fun s => r (Esearch_Find_0 s) (Hsearch_Find_0 s)) s := by
  cases s <;> kernel_rfl
theorem Osearch_Find_0.bind_k {β γ : Type} (o : Osearch_Find_0) (c0 : ByteArray → Int → Int → Bool → (List AV) → Option β) (c1 : ByteArray → Int → Int → Bool → (List AV) → Int → Int → Int → Bool → (List AV) → (List AV) → Option β) (φ : β → Option γ) : (Osearch_Find_0.k o c0 c1).bind φ = Osearch_Find_0.k o (fun obj0_0_0 obj0_0_1 obj0_0_2 obj0_0_3n obj0_0_3 => (c0 obj0_0_0 obj0_0_1 obj0_0_2 obj0_0_3n obj0_0_3).bind φ) (fun obj0_0_0 obj0_0_1 obj0_0_2 obj0_0_3n obj0_0_3 obj1_0_0 obj1_0_1 obj1_0_2 obj1_0_3n obj1_0_3 obj2 => (c1 obj0_0_0 obj0_0_1 obj0_0_2 obj0_0_3n obj0_0_3 obj1_0_0 obj1_0_1 obj1_0_2 obj1_0_3n obj1_0_3 obj2).bind φ) := by cases o <;> rfl
theorem natsearch_Find_0 (K : PureK) {β γ : Type} (φ : β → Option γ) (d : Osearch_Find_0 → Option β) (r : Ssearch_Find_0 → Option β) (s : Ssearch_Find_0) : Rsearch_Find_0 K (fun o => (d o).bind φ) (fun s => (r s).bind φ) s = (Rsearch_Find_0 K d r s).bind φ := by
  cases s <;> simp only [Rsearch_Find_0, bind_optK, bind_br, bind_asInt, bind_asBool, bind_asStr, bind_asLst, bind_asAgg, bind_asTup, bind_asBig, bind_asErr, bind_none]
theorem outsearch_Find_0 (o : Osearch_Find_0) : ∃ x e' h', ∀ {β : Type} (k : Ex → Env → Heap → Option β), Tsearch_Find_0 k o = k x e' h' := by cases o <;> exact ⟨_, _, _, fun _ => rfl⟩
theorem oksearch_Find_0 {K : PureK} (hX : Sound (XM m)) (hK : KOk (XM m) K) {lsearch_Find_0 : Ssearch_Find_0 → Option Osearch_Find_0} (hl : ∀ s o, lsearch_Find_0 s = some o → ∃ m, fuelRec (Rsearch_Find_0 K some) m s = some o) (β : Type) (e : Env) (h : Heap) (k : Ex → Env → Heap → Option β) (r : β) (hr : (Fsearch_Find_0 lsearch_Find_0).run e h k = some r) : ∃ x e' h', k x e' h' = some r ∧ CodeAt (XM m) (.loop (loopBody ((XM m)).P 11 0)) e h x e' h' := by
  obtain ⟨fn, c, hin⟩ := loopIn_of (X := (XM m)) (f := 11) (i := 0) (key := 4) (by kernel_rfl)
  simp only [Fsearch_Find_0] at hr
  split at hr
  · rename_i hlen
    have hlen := Nat.eq_of_beq_eq_true hlen
    split at hr
    · rename_i q1 q2 q5 q6 q13 q14 q15
      obtain ⟨o, ho, hr⟩ := optK_some hr
      refine tell_ok hX (KOk.congr (X := (XM m)) (Y := (XM m)) rfl rfl hK) hin (E := Esearch_Find_0) (H := Hsearch_Find_0) (R := fun d r => Rsearch_Find_0 K d r) (T := Tsearch_Find_0) (ts := [(1, 1, 0), (2, 1, 0), (3, 1, 0)]) (len := 1) (cl := clsearch_Find_0) (clo := closearch_Find_0) (roundsearch_Find_0 K) (natsearch_Find_0 K) outsearch_Find_0 (hl _ _ ho) (cl0 := clsearch_Find_0) (ts0 := []) ?_ rfl (by kernel_rfl) (by kernel_rfl) hr
      rw [clear_lit e 40 hlen, show clearEnv clsearch_Find_0 ((List.range 40).map fun i => e.getD i .dead) = [.dead, e.getD 1 .dead, e.getD 2 .dead, .dead, .dead, e.getD 5 .dead, e.getD 6 .dead, .dead, .dead, .dead, .dead, .dead, .dead, e.getD 13 .dead, e.getD 14 .dead, e.getD 15 .dead, .dead, .dead, .dead, .dead, .dead, .dead, .dead, .dead, .dead, .dead, .dead, .dead, .dead, .dead, .dead, .dead, .dead, .dead, .dead, .dead, .dead, .dead, .dead, .dead] from by kernel_rfl]; rw [q1, q2, q5, q6, q13, q14, q15]
      kernel_rfl
    · cases hr
  · cases hr
noncomputable def Rsearch_Find (K : PureK) (lsearch_Find_0 : Ssearch_Find_0 → Option Osearch_Find_0) (b0_0 : ByteArray) (b0_1 : Int) (b0_2 : Int) (b0_3n : Bool) (b0_3 : List AV) (l1n : Bool) (l1 : List AV) : Option AV :=
  optK (lsearch_Find_0 (Ssearch_Find_0.s0 l1n l1 (((b0_3.length : Nat) : Int)) b0_3n b0_3 (((b0_3.length : Nat) : Int)) 0 b0_0 b0_1 b0_2 b0_3n b0_3)) fun wo1 => Osearch_Find_0.k wo1
      (fun (obj0_0_0_2 : ByteArray) (obj0_0_1_2 : Int) (obj0_0_2_2 : Int) (obj0_0_3n_2 : Bool) (obj0_0_3_2 : List AV) => some (AV.lst 1 true []))
      (fun (obj0_0_0_3 : ByteArray) (obj0_0_1_3 : Int) (obj0_0_2_3 : Int) (obj0_0_3n_3 : Bool) (obj0_0_3_3 : List AV) (obj1_0_0_3 : Int) (obj1_0_1_3 : Int) (obj1_0_2_3 : Int) (obj1_0_3n_3 : Bool) (obj1_0_3_3 : List AV) (obj2_3 : List AV) => some (AV.lst 1 false obj2_3))
theorem topsearch_Find (K : PureK) (lsearch_Find_0 : Ssearch_Find_0 → Option Osearch_Find_0) (b0_0 : ByteArray) (b0_1 : Int) (b0_2 : Int) (b0_3n : Bool) (b0_3 : List AV) (l1n : Bool) (l1 : List AV) : topK (addLp (XM m) 11 4 (Fsearch_Find_0 lsearch_Find_0)) K 0 f_search_Find [(.agg [(.v (.string b0_0)), (.v (.int .i64 b0_1)), (.v (.int .i64 b0_2)), (.lst 4 b0_3n b0_3)]), (.lst 7 l1n l1)] = Rsearch_Find K lsearch_Find_0 b0_0 b0_1 b0_2 b0_3n b0_3 l1n l1 := by kernel_rfl
theorem pcsearch_Find {K : PureK} (hK : KOk (XM m) K) {lsearch_Find_0 : Ssearch_Find_0 → Option Osearch_Find_0} (hsearch_Find_0 : ∀ s o, lsearch_Find_0 s = some o → ∃ m, fuelRec (Rsearch_Find_0 K some) m s = some o) {b0_0 : ByteArray} {b0_1 : Int} {b0_2 : Int} {b0_3n : Bool} {b0_3 : List AV} {l1n : Bool} {l1 : List AV} {v : AV} (h : Rsearch_Find K lsearch_Find_0 b0_0 b0_1 b0_2 b0_3n b0_3 l1n l1 = some v) : PureCall (XM m) f_search_Find [(.agg [(.v (.string b0_0)), (.v (.int .i64 b0_1)), (.v (.int .i64 b0_2)), (.lst 4 b0_3n b0_3)]), (.lst 7 l1n l1)] v := by
  have hSo0 := (soundXM m)
  obtain ⟨_, _, hin0⟩ := loopIn_of (X := (XM m)) (f := 11) (i := 0) (key := 4) (by kernel_rfl)
  have hSo1 := sound_add hSo0 hin0 (oksearch_Find_0 hSo0 hK hsearch_Find_0)
  exact tell_top (X := (XM m)) (Y := (addLp (XM m) 11 4 (Fsearch_Find_0 lsearch_Find_0))) rfl rfl hSo1 hK ((topsearch_Find K lsearch_Find_0 b0_0 b0_1 b0_2 b0_3n b0_3 l1n l1).trans h)

/-! 13: escheat/search.Has -/
noncomputable def Rsearch_Has (K : PureK) (s0 : ByteArray) (text1 : ByteArray) : Option AV :=
  optK (K f_search_small [sv s0]) fun wv1 =>
    Ab.asStr wv1 fun ws2 =>
    optK (K f_search_small [sv text1]) fun wv3 =>
    Ab.asStr wv3 fun ws4 =>
    optK (K f_strings_Contains [sv ws2, sv ws4]) fun wv5 =>
    Ab.asBool wv5 fun wb6 =>
    some (bv wb6)
theorem topsearch_Has (K : PureK) (s0 : ByteArray) (text1 : ByteArray) : topK (XM m) K 0 f_search_Has [(.v (.string s0)), (.v (.string text1))] = Rsearch_Has K s0 text1 := by kernel_rfl
theorem pcsearch_Has {K : PureK} (hK : KOk (XM m) K) {s0 : ByteArray} {text1 : ByteArray} {v : AV} (h : Rsearch_Has K s0 text1 = some v) : PureCall (XM m) f_search_Has [(.v (.string s0)), (.v (.string text1))] v := by
  have hSo0 := (soundXM m)
  exact tell_top (X := (XM m)) (Y := (XM m)) rfl rfl hSo0 hK ((topsearch_Has K s0 text1).trans h)

/-! 5: escheat/escheatlaw22.SearchDays -/
inductive Slaw22_SearchDays_0 where
  | s0 (day1 : Int) (n5 : Int) (i6 : Int) (obj0_0_0 : Int) (obj0_0_1 : Int) (obj0_0_2 : Int) (obj0_0_3n : Bool) (obj0_0_3 : List AV)

inductive Olaw22_SearchDays_0 where
  | x0 (day1 : Int) (n5 : Int) (obj0_0_0 : Int) (obj0_0_1 : Int) (obj0_0_2 : Int) (obj0_0_3n : Bool) (obj0_0_3 : List AV)

def Olaw22_SearchDays_0.k {β : Type} (o : Olaw22_SearchDays_0) (c0 : Int → Int → Int → Int → Int → Bool → (List AV) → Option β) : Option β := match o with
  | .x0 day1 n5 obj0_0_0 obj0_0_1 obj0_0_2 obj0_0_3n obj0_0_3 => c0 day1 n5 obj0_0_0 obj0_0_1 obj0_0_2 obj0_0_3n obj0_0_3

def Elaw22_SearchDays_0 : Slaw22_SearchDays_0 → Env
  | .s0 day1 n5 i6 obj0_0_0 obj0_0_1 obj0_0_2 obj0_0_3n obj0_0_3 => [.dead, (.v (.int .u16 day1)), (.ptr 0 0 0 0), .dead, .dead, (.v (.int .i64 n5)), (.v (.int .i64 i6)), .dead, .dead, .dead, .dead, .dead, .dead, .dead, .dead, .dead, .dead, .dead, .dead, .dead, .dead, .dead, .dead, .dead, .dead, .dead, .dead, .dead, .dead, .dead, .dead, .dead, .dead, .dead, .dead, .dead, .dead, .dead, .dead, .dead, .dead, .dead, .dead, .dead, .dead, .dead, .dead, .dead, .dead, .dead, .dead, .dead, .dead, .dead, .dead, .dead, .dead, .dead, .dead]

def Hlaw22_SearchDays_0 : Slaw22_SearchDays_0 → Heap
  | .s0 day1 n5 i6 obj0_0_0 obj0_0_1 obj0_0_2 obj0_0_3n obj0_0_3 => [⟨[(.agg [(.v (.int .i64 obj0_0_0)), (.v (.int .i64 obj0_0_1)), (.v (.int .i64 obj0_0_2)), (.lst 1 obj0_0_3n obj0_0_3)])], 0, 0, true, true, 27, 4, none⟩]

def Tlaw22_SearchDays_0 {β : Type} (k : Ex → Env → Heap → Option β) (o : Olaw22_SearchDays_0) : Option β := Olaw22_SearchDays_0.k o (fun day1 n5 obj0_0_0 obj0_0_1 obj0_0_2 obj0_0_3n obj0_0_3 => k (.exit 0) [.dead, (.v (.int .u16 day1)), (.ptr 0 0 0 0), .dead, .dead, (.v (.int .i64 n5)), .dead, .dead, .dead, .dead, .dead, .dead, .dead, .dead, .dead, .dead, .dead, .dead, .dead, .dead, .dead, .dead, .dead, .dead, .dead, .dead, .dead, .dead, .dead, .dead, .dead, .dead, .dead, .dead, .dead, .dead, .dead, .dead, .dead, .dead, .dead, .dead, .dead, .dead, .dead, .dead, .dead, .dead, .dead, .dead, .dead, .dead, .dead, .dead, .dead, .dead, .dead, .dead, .dead] [⟨[(.agg [(.v (.int .i64 obj0_0_0)), (.v (.int .i64 obj0_0_1)), (.v (.int .i64 obj0_0_2)), (.lst 1 obj0_0_3n obj0_0_3)])], 0, 0, true, true, 27, 4, none⟩])

def Flaw22_SearchDays_0 (llaw22_SearchDays_0 : Slaw22_SearchDays_0 → Option Olaw22_SearchDays_0) : LoopF := ⟨fun e h k => match Nat.beq e.length 59 with
  | true => (match e.getD 1 .dead, e.getD 2 .dead, e.getD 5 .dead, e.getD 6 .dead, h with
    | (.v (.int .u16 day1)), (.ptr 0 0 0 0), (.v (.int .i64 n5)), (.v (.int .i64 i6)), [⟨[(.agg [(.v (.int .i64 obj0_0_0)), (.v (.int .i64 obj0_0_1)), (.v (.int .i64 obj0_0_2)), (.lst 1 obj0_0_3n obj0_0_3)])], 0, 0, true, true, 27, 4, none⟩] => optK (llaw22_SearchDays_0 (.s0 day1 n5 i6 obj0_0_0 obj0_0_1 obj0_0_2 obj0_0_3n obj0_0_3)) (Tlaw22_SearchDays_0 k)
    | _, _, _, _, _ => none)
  | false => none⟩

def cllaw22_SearchDays_0 : List Tmp := [0, 3, 4, 7, 8, 9, 10, 11, 12, 13, 14, 15, 16, 17, 18, 19, 20, 21, 22, 23, 24, 25, 26, 27, 28, 29, 30, 31, 32, 33, 34, 35, 36, 37, 38, 39, 40, 41, 42, 43, 44, 45, 46, 47, 48, 49, 50, 51, 52, 53, 54, 55, 56, 57, 58]
def clolaw22_SearchDays_0 : List Tmp := [0, 3, 4, 6, 7, 8, 9, 10, 11, 12, 13, 14, 15, 16, 17, 18, 19, 20, 21, 22, 23, 24, 25, 26, 27, 28, 29, 30, 31, 32, 33, 34, 35, 36, 37, 38, 39, 40, 41, 42, 43, 44, 45, 46, 47, 48, 49, 50, 51, 52, 53, 54, 55, 56, 57, 58]

noncomputable def Rlaw22_SearchDays_0 {β : Type} (K : PureK) (d : Olaw22_SearchDays_0 → Option β) (r : Slaw22_SearchDays_0 → Option β) : Slaw22_SearchDays_0 → Option β
  | .s0 day1 n5 i6 obj0_0_0 obj0_0_1 obj0_0_2 obj0_0_3n obj0_0_3 =>
    br (decide (i6 < 2))
      (optK (K f_search_Match [AV.lst 7 false [AV.agg [iv (w64 (3 + i6)), sv ({ data := #[] } : ByteArray), sv ({ data := #[] } : ByteArray), iv (w64 day1), AV.lst 2 true [], iv 0, iv 0]], AV.agg [iv obj0_0_0, iv obj0_0_1, iv obj0_0_2, AV.lst 1 obj0_0_3n obj0_0_3], iv 1, iv 1, iv 1]) fun wv1 =>
      Ab.asBool wv1 fun wb2 =>
      br wb2
        (r (.s0 day1 (w64 (n5 + 1)) (w64 (i6 + 1)) obj0_0_0 obj0_0_1 obj0_0_2 obj0_0_3n obj0_0_3))
        (r (.s0 day1 n5 (w64 (i6 + 1)) obj0_0_0 obj0_0_1 obj0_0_2 obj0_0_3n obj0_0_3)))
      (d (.x0 day1 n5 obj0_0_0 obj0_0_1 obj0_0_2 obj0_0_3n obj0_0_3))
theorem roundlaw22_SearchDays_0 (K : PureK) {β : Type} (r : Env → Heap → Option β) (k : Ex → Env → Heap → Option β) (s : Slaw22_SearchDays_0) : tellOne (XM m) K 0 5 0 [(1, 1, 0), (2, 1, 0), (3, 1, 0)] 1 cllaw22_SearchDays_0 clolaw22_SearchDays_0 r k (Elaw22_SearchDays_0 s) (Hlaw22_SearchDays_0 s) = Rlaw22_SearchDays_0 K (Tlaw22_SearchDays_0 k) (fun s => r (Elaw22_SearchDays_0 s) (Hlaw22_SearchDays_0 s)) s := by
  cases s <;> kernel_rfl
theorem Olaw22_SearchDays_0.bind_k {β γ : Type} (o : Olaw22_SearchDays_0) (c0 : Int → Int → Int → Int → Int → Bool → (List AV) → Option β) (φ : β → Option γ) : (Olaw22_SearchDays_0.k o c0).bind φ = Olaw22_SearchDays_0.k o (fun day1 n5 obj0_0_0 obj0_0_1 obj0_0_2 obj0_0_3n obj0_0_3 => (c0 day1 n5 obj0_0_0 obj0_0_1 obj0_0_2 obj0_0_3n obj0_0_3).bind φ) := by cases o <;> rfl
theorem natlaw22_SearchDays_0 (K : PureK) {β γ : Type} (φ : β → Option γ) (d : Olaw22_SearchDays_0 → Option β) (r : Slaw22_SearchDays_0 → Option β) (s : Slaw22_SearchDays_0) : Rlaw22_SearchDays_0 K (fun o => (d o).bind φ) (fun s => (r s).bind φ) s = (Rlaw22_SearchDays_0 K d r s).bind φ := by
  cases s <;> simp only [Rlaw22_SearchDays_0, bind_optK, bind_br, bind_asInt, bind_asBool, bind_asStr, bind_asLst, bind_asAgg, bind_asTup, bind_asBig, bind_asErr, bind_none]
theorem outlaw22_SearchDays_0 (o : Olaw22_SearchDays_0) : ∃ x e' h', ∀ {β : Type} (k : Ex → Env → Heap → Option β), Tlaw22_SearchDays_0 k o = k x e' h' := by cases o <;> exact ⟨_, _, _, fun _ => rfl⟩
theorem oklaw22_SearchDays_0 {K : PureK} (hX : Sound (XM m)) (hK : KOk (XM m) K) {llaw22_SearchDays_0 : Slaw22_SearchDays_0 → Option Olaw22_SearchDays_0} (hl : ∀ s o, llaw22_SearchDays_0 s = some o → ∃ m, fuelRec (Rlaw22_SearchDays_0 K some) m s = some o) (β : Type) (e : Env) (h : Heap) (k : Ex → Env → Heap → Option β) (r : β) (hr : (Flaw22_SearchDays_0 llaw22_SearchDays_0).run e h k = some r) : ∃ x e' h', k x e' h' = some r ∧ CodeAt (XM m) (.loop (loopBody ((XM m)).P 5 0)) e h x e' h' := by
  obtain ⟨fn, c, hin⟩ := loopIn_of (X := (XM m)) (f := 5) (i := 0) (key := 7) (by kernel_rfl)
  simp only [Flaw22_SearchDays_0] at hr
  split at hr
  · rename_i hlen
    have hlen := Nat.eq_of_beq_eq_true hlen
    split at hr
    · rename_i q1 q2 q5 q6
      obtain ⟨o, ho, hr⟩ := optK_some hr
      refine tell_ok hX (KOk.congr (X := (XM m)) (Y := (XM m)) rfl rfl hK) hin (E := Elaw22_SearchDays_0) (H := Hlaw22_SearchDays_0) (R := fun d r => Rlaw22_SearchDays_0 K d r) (T := Tlaw22_SearchDays_0) (ts := [(1, 1, 0), (2, 1, 0), (3, 1, 0)]) (len := 1) (cl := cllaw22_SearchDays_0) (clo := clolaw22_SearchDays_0) (roundlaw22_SearchDays_0 K) (natlaw22_SearchDays_0 K) outlaw22_SearchDays_0 (hl _ _ ho) (cl0 := cllaw22_SearchDays_0) (ts0 := []) ?_ rfl (by kernel_rfl) (by kernel_rfl) hr
      rw [clear_lit e 59 hlen, show clearEnv cllaw22_SearchDays_0 ((List.range 59).map fun i => e.getD i .dead) = [.dead, e.getD 1 .dead, e.getD 2 .dead, .dead, .dead, e.getD 5 .dead, e.getD 6 .dead, .dead, .dead, .dead, .dead, .dead, .dead, .dead, .dead, .dead, .dead, .dead, .dead, .dead, .dead, .dead, .dead, .dead, .dead, .dead, .dead, .dead, .dead, .dead, .dead, .dead, .dead, .dead, .dead, .dead, .dead, .dead, .dead, .dead, .dead, .dead, .dead, .dead, .dead, .dead, .dead, .dead, .dead, .dead, .dead, .dead, .dead, .dead, .dead, .dead, .dead, .dead, .dead] from by kernel_rfl]; rw [q1, q2, q5, q6]
      kernel_rfl
    · cases hr
  · cases hr
noncomputable def Rlaw22_SearchDays (K : PureK) (llaw22_SearchDays_0 : Slaw22_SearchDays_0 → Option Olaw22_SearchDays_0) (m0_0 : Int) (m0_1 : Int) (m0_2 : Int) (m0_3n : Bool) (m0_3 : List AV) (day1 : Int) : Option AV :=
  optK (K f_law22_alive []) fun wv3 =>
    Ab.asBool wv3 fun wb4 =>
    br (!wb4)
      (some (bv false))
      (br (decide (((m0_3.length : Nat) : Int) > 2000))
        (some (bv true))
        (optK (llaw22_SearchDays_0 (Slaw22_SearchDays_0.s0 day1 0 0 m0_0 m0_1 m0_2 m0_3n m0_3)) fun wo5 => Olaw22_SearchDays_0.k wo5 (fun (day1_6 : Int) (n5_6 : Int) (obj0_0_0_6 : Int) (obj0_0_1_6 : Int) (obj0_0_2_6 : Int) (obj0_0_3n_6 : Bool) (obj0_0_3_6 : List AV) =>
        optK (K f_search_Match [AV.lst 7 false [AV.agg [iv 5, sv ({ data := #[] } : ByteArray), sv ({ data := #[] } : ByteArray), iv (w64 (w64 day1_6 + 1)), AV.lst 2 true [], iv 0, iv 0]], AV.agg [iv obj0_0_0_6, iv obj0_0_1_6, iv obj0_0_2_6, AV.lst 1 obj0_0_3n_6 obj0_0_3_6], iv 1, iv 1, iv 1]) fun wv7 =>
        Ab.asBool wv7 fun wb8 =>
        br wb8
          (optK (K f_search_Match [AV.lst 7 false [AV.agg [iv 4, sv ({ data := #[] } : ByteArray), sv ({ data := #[] } : ByteArray), iv (w64 day1_6), AV.lst 2 true [], iv 0, iv 0]], AV.agg [iv obj0_0_0_6, iv obj0_0_1_6, iv obj0_0_2_6, AV.lst 1 obj0_0_3n_6 obj0_0_3_6], iv 1, iv 1, iv 1]) fun wv9 =>
          Ab.asBool wv9 fun wb10 =>
          optK (K f_search_Match [AV.lst 7 false [AV.agg [iv 5, sv ({ data := #[] } : ByteArray), sv ({ data := #[] } : ByteArray), iv (w64 day1_6), AV.lst 2 true [], iv 0, iv 0]], AV.agg [iv obj0_0_0_6, iv obj0_0_1_6, iv obj0_0_2_6, AV.lst 1 obj0_0_3n_6 obj0_0_3_6], iv 1, iv 1, iv 1]) fun wv11 =>
          Ab.asBool wv11 fun wb12 =>
          optK (br (w64 (n5_6 + 1) == 1)
              (br (!wb10)
                (some (bv true))
                (some (bv wb12)))
              (some (bv false))) fun wv13 =>
          Ab.asBool wv13 fun wb14 =>
          some (bv wb14))
          (optK (K f_search_Match [AV.lst 7 false [AV.agg [iv 4, sv ({ data := #[] } : ByteArray), sv ({ data := #[] } : ByteArray), iv (w64 day1_6), AV.lst 2 true [], iv 0, iv 0]], AV.agg [iv obj0_0_0_6, iv obj0_0_1_6, iv obj0_0_2_6, AV.lst 1 obj0_0_3n_6 obj0_0_3_6], iv 1, iv 1, iv 1]) fun wv15 =>
          Ab.asBool wv15 fun wb16 =>
          optK (K f_search_Match [AV.lst 7 false [AV.agg [iv 5, sv ({ data := #[] } : ByteArray), sv ({ data := #[] } : ByteArray), iv (w64 day1_6), AV.lst 2 true [], iv 0, iv 0]], AV.agg [iv obj0_0_0_6, iv obj0_0_1_6, iv obj0_0_2_6, AV.lst 1 obj0_0_3n_6 obj0_0_3_6], iv 1, iv 1, iv 1]) fun wv17 =>
          Ab.asBool wv17 fun wb18 =>
          optK (br (n5_6 == 1)
              (br (!wb16)
                (some (bv true))
                (some (bv wb18)))
              (some (bv false))) fun wv19 =>
          Ab.asBool wv19 fun wb20 =>
          some (bv wb20)))))
theorem toplaw22_SearchDays (K : PureK) (llaw22_SearchDays_0 : Slaw22_SearchDays_0 → Option Olaw22_SearchDays_0) (m0_0 : Int) (m0_1 : Int) (m0_2 : Int) (m0_3n : Bool) (m0_3 : List AV) (day1 : Int) : topK (addLp (XM m) 5 7 (Flaw22_SearchDays_0 llaw22_SearchDays_0)) K 0 f_law22_SearchDays [(.agg [(.v (.int .i64 m0_0)), (.v (.int .i64 m0_1)), (.v (.int .i64 m0_2)), (.lst 1 m0_3n m0_3)]), (.v (.int .u16 day1))] = Rlaw22_SearchDays K llaw22_SearchDays_0 m0_0 m0_1 m0_2 m0_3n m0_3 day1 := by kernel_rfl
theorem pclaw22_SearchDays {K : PureK} (hK : KOk (XM m) K) {llaw22_SearchDays_0 : Slaw22_SearchDays_0 → Option Olaw22_SearchDays_0} (hlaw22_SearchDays_0 : ∀ s o, llaw22_SearchDays_0 s = some o → ∃ m, fuelRec (Rlaw22_SearchDays_0 K some) m s = some o) {m0_0 : Int} {m0_1 : Int} {m0_2 : Int} {m0_3n : Bool} {m0_3 : List AV} {day1 : Int} {v : AV} (h : Rlaw22_SearchDays K llaw22_SearchDays_0 m0_0 m0_1 m0_2 m0_3n m0_3 day1 = some v) : PureCall (XM m) f_law22_SearchDays [(.agg [(.v (.int .i64 m0_0)), (.v (.int .i64 m0_1)), (.v (.int .i64 m0_2)), (.lst 1 m0_3n m0_3)]), (.v (.int .u16 day1))] v := by
  have hSo0 := (soundXM m)
  obtain ⟨_, _, hin0⟩ := loopIn_of (X := (XM m)) (f := 5) (i := 0) (key := 7) (by kernel_rfl)
  have hSo1 := sound_add hSo0 hin0 (oklaw22_SearchDays_0 hSo0 hK hlaw22_SearchDays_0)
  exact tell_top (X := (XM m)) (Y := (addLp (XM m) 5 7 (Flaw22_SearchDays_0 llaw22_SearchDays_0))) rfl rfl hSo1 hK ((toplaw22_SearchDays K llaw22_SearchDays_0 m0_0 m0_1 m0_2 m0_3n m0_3 day1).trans h)

/-! 6: escheat/escheatlaw22.alive -/
noncomputable def Rlaw22_alive (K : PureK) : Option AV :=
  optK (K f_search_Find [AV.agg [sv ({ data := #[] } : ByteArray), iv 0, iv 0, AV.lst 4 false [AV.agg [iv 4, iv 1, iv 0, AV.lst 1 false [uv 65, uv 58, uv 32, uv 98, uv 10, uv 10, uv 72, uv 101, uv 108, uv 108, uv 111]], AV.agg [iv 9, iv 0, iv 0, AV.lst 1 false [uv 10, uv 120]]]], AV.lst 7 false [AV.agg [iv 11, sv ({ data := #[] } : ByteArray), sv ({ data := #[104, 69, 76, 76] } : ByteArray), iv 0, AV.lst 2 true [], iv 0, iv 0]]]) fun wv1 =>
    Ab.asLst wv1 1 fun wb2 wr2 =>
    optK (K f_ref09_Ints [AV.lst 1 wb2 wr2, AV.lst 1 false [iv 1]]) fun wv3 =>
    Ab.asBool wv3 fun wb4 =>
    br wb4
      (optK (K f_search_Find [AV.agg [sv ({ data := #[] } : ByteArray), iv 0, iv 0, AV.lst 4 false [AV.agg [iv 4, iv 1, iv 0, AV.lst 1 false [uv 65, uv 58, uv 32, uv 98, uv 10, uv 10, uv 72, uv 101, uv 108, uv 108, uv 111]], AV.agg [iv 9, iv 0, iv 0, AV.lst 1 false [uv 10, uv 120]]]], AV.lst 7 false [AV.agg [iv 1, sv ({ data := #[] } : ByteArray), sv ({ data := #[] } : ByteArray), iv 1, AV.lst 2 true [], iv 0, iv 0], AV.agg [iv 16, sv ({ data := #[] } : ByteArray), sv ({ data := #[] } : ByteArray), iv 0, AV.lst 2 true [], iv 0, iv 0]]]) fun wv5 =>
      Ab.asLst wv5 1 fun wb6 wr6 =>
      optK (K f_ref09_Ints [AV.lst 1 wb6 wr6, AV.lst 1 false [iv 2]]) fun wv7 =>
      Ab.asBool wv7 fun wb8 =>
      br wb8
        (optK (K f_search_Has [sv ({ data := #[97, 98, 99] } : ByteArray), sv ({ data := #[66] } : ByteArray)]) fun wv9 =>
        Ab.asBool wv9 fun wb10 =>
        some (bv wb10))
        (some (bv false)))
      (some (bv false))
theorem toplaw22_alive (K : PureK) : topK (XM m) K 0 f_law22_alive [] = Rlaw22_alive K := by kernel_rfl
theorem pclaw22_alive {K : PureK} (hK : KOk (XM m) K) {v : AV} (h : Rlaw22_alive K = some v) : PureCall (XM m) f_law22_alive [] v := by
  have hSo0 := (soundXM m)
  exact tell_top (X := (XM m)) (Y := (XM m)) rfl rfl hSo0 hK ((toplaw22_alive K).trans h)

/-! 21: (escheat/search.sight).finds -/
noncomputable def Rsearch_sight_finds (K : PureK) (s0_0 : Int) (s0_1 : Int) (s0_2 : Int) (s0_3n : Bool) (s0_3 : List AV) (s0_4 : Int) (s0_5 : Int) (s0_6 : Int) (k1_0 : Int) (k1_1 : ByteArray) (k1_2 : ByteArray) (k1_3 : Int) (k1_4n : Bool) (k1_4 : List AV) (k1_5 : Int) (k1_6 : Int) : Option AV :=
  br (k1_0 == 1)
      (some (bv (w64 ((((BitVec.ofInt 64 s0_1 &&& BitVec.ofInt 64 k1_3).toNat : Nat) : Int)) == k1_3)))
      (br (k1_0 == 2)
        (some (bv (w64 ((((BitVec.ofInt 64 s0_1 &&& BitVec.ofInt 64 k1_3).toNat : Nat) : Int)) == 0)))
        (br (k1_0 == 3)
          (br (k1_0 == 3)
            (optK (K f_date_Day [iv s0_2]) fun wv1 =>
            Ab.asInt wv1 .i64 fun wn2 =>
            optK (K f_search_dated [iv wn2, iv (w64 (k1_0 - 3)), iv k1_3]) fun wv3 =>
            Ab.asBool wv3 fun wb4 =>
            some (bv wb4))
            (br (k1_0 == 6)
              (br (k1_0 == 6)
                (optK (K f_search_sight_sent [AV.agg [iv s0_0, iv s0_1, iv s0_2, AV.lst 1 s0_3n s0_3, iv s0_4, iv s0_5, iv s0_6]]) fun wv5 =>
                Ab.asTup wv5 2 fun wg6 =>
                Ab.asInt (wg6 0) .i64 fun wn7 =>
                Ab.asBool (wg6 1) fun wb8 =>
                optK (br wb8
                    (optK (K f_search_dated [iv wn7, iv (w64 (k1_0 - 6)), iv k1_3]) fun wv10 =>
                    Ab.asBool wv10 fun wb11 =>
                    some (bv wb11))
                    (some (bv false))) fun wv9 =>
                Ab.asBool wv9 fun wb12 =>
                some (bv wb12))
                (br (k1_0 == 9)
                  (optK (K f_head_Get [AV.lst 1 s0_3n s0_3, sv k1_1]) fun wv13 =>
                  Ab.asTup wv13 2 fun wg14 =>
                  Ab.asStr (wg14 0) fun ws15 =>
                  Ab.asBool (wg14 1) fun wb16 =>
                  optK (br wb16
                      (optK (K f_search_Has [sv ws15, sv k1_2]) fun wv18 =>
                      Ab.asBool wv18 fun wb19 =>
                      some (bv wb19))
                      (some (bv false))) fun wv17 =>
                  Ab.asBool wv17 fun wb20 =>
                  some (bv wb20))
                  (br (k1_0 == 10)
                    (optK (K f_head_Text [AV.lst 1 s0_3n s0_3]) fun wv21 =>
                    Ab.asInt wv21 .i64 fun wn22 =>
                    br (decide (0 ≤ wn22))
                      (br (decide (wn22 ≤ ((s0_3.length : Nat) : Int)))
                        (optK (rowsBytes (List.drop wn22.toNat s0_3)) fun wv23 =>
                        optK (K f_search_Has [sv ({ data := wv23.toArray } : ByteArray), sv k1_2]) fun wv24 =>
                        Ab.asBool wv24 fun wb25 =>
                        some (bv wb25))
                        (none))
                      (none))
                    (br (k1_0 == 11)
                      (optK (rowsBytes s0_3) fun wv26 =>
                      optK (K f_search_Has [sv ({ data := wv26.toArray } : ByteArray), sv k1_2]) fun wv27 =>
                      Ab.asBool wv27 fun wb28 =>
                      some (bv wb28))
                      (br (k1_0 == 12)
                        (some (bv (decide (((s0_3.length : Nat) : Int) > k1_3))))
                        (br (k1_0 == 13)
                          (some (bv (decide (((s0_3.length : Nat) : Int) < k1_3))))
                          (br (k1_0 == 14)
                            (optK (K f_uids_Has [AV.lst 2 k1_4n k1_4, iv s0_4, iv s0_5]) fun wv29 =>
                            Ab.asBool wv29 fun wb30 =>
                            some (bv wb30))
                            (br (k1_0 == 15)
                              (optK (K f_uids_Has [AV.lst 2 k1_4n k1_4, iv s0_0, iv s0_6]) fun wv31 =>
                              Ab.asBool wv31 fun wb32 =>
                              some (bv wb32))
                              (some (bv true))))))))))
              (br (k1_0 == 7)
                (br (k1_0 == 7)
                  (optK (K f_search_sight_sent [AV.agg [iv s0_0, iv s0_1, iv s0_2, AV.lst 1 s0_3n s0_3, iv s0_4, iv s0_5, iv s0_6]]) fun wv33 =>
                  Ab.asTup wv33 2 fun wg34 =>
                  Ab.asInt (wg34 0) .i64 fun wn35 =>
                  Ab.asBool (wg34 1) fun wb36 =>
                  optK (br wb36
                      (optK (K f_search_dated [iv wn35, iv (w64 (k1_0 - 6)), iv k1_3]) fun wv38 =>
                      Ab.asBool wv38 fun wb39 =>
                      some (bv wb39))
                      (some (bv false))) fun wv37 =>
                  Ab.asBool wv37 fun wb40 =>
                  some (bv wb40))
                  (br (k1_0 == 9)
                    (optK (K f_head_Get [AV.lst 1 s0_3n s0_3, sv k1_1]) fun wv41 =>
                    Ab.asTup wv41 2 fun wg42 =>
                    Ab.asStr (wg42 0) fun ws43 =>
                    Ab.asBool (wg42 1) fun wb44 =>
                    optK (br wb44
                        (optK (K f_search_Has [sv ws43, sv k1_2]) fun wv46 =>
                        Ab.asBool wv46 fun wb47 =>
                        some (bv wb47))
                        (some (bv false))) fun wv45 =>
                    Ab.asBool wv45 fun wb48 =>
                    some (bv wb48))
                    (br (k1_0 == 10)
                      (optK (K f_head_Text [AV.lst 1 s0_3n s0_3]) fun wv49 =>
                      Ab.asInt wv49 .i64 fun wn50 =>
                      br (decide (0 ≤ wn50))
                        (br (decide (wn50 ≤ ((s0_3.length : Nat) : Int)))
                          (optK (rowsBytes (List.drop wn50.toNat s0_3)) fun wv51 =>
                          optK (K f_search_Has [sv ({ data := wv51.toArray } : ByteArray), sv k1_2]) fun wv52 =>
                          Ab.asBool wv52 fun wb53 =>
                          some (bv wb53))
                          (none))
                        (none))
                      (br (k1_0 == 11)
                        (optK (rowsBytes s0_3) fun wv54 =>
                        optK (K f_search_Has [sv ({ data := wv54.toArray } : ByteArray), sv k1_2]) fun wv55 =>
                        Ab.asBool wv55 fun wb56 =>
                        some (bv wb56))
                        (br (k1_0 == 12)
                          (some (bv (decide (((s0_3.length : Nat) : Int) > k1_3))))
                          (br (k1_0 == 13)
                            (some (bv (decide (((s0_3.length : Nat) : Int) < k1_3))))
                            (br (k1_0 == 14)
                              (optK (K f_uids_Has [AV.lst 2 k1_4n k1_4, iv s0_4, iv s0_5]) fun wv57 =>
                              Ab.asBool wv57 fun wb58 =>
                              some (bv wb58))
                              (br (k1_0 == 15)
                                (optK (K f_uids_Has [AV.lst 2 k1_4n k1_4, iv s0_0, iv s0_6]) fun wv59 =>
                                Ab.asBool wv59 fun wb60 =>
                                some (bv wb60))
                                (some (bv true))))))))))
                (br (k1_0 == 8)
                  (optK (K f_search_sight_sent [AV.agg [iv s0_0, iv s0_1, iv s0_2, AV.lst 1 s0_3n s0_3, iv s0_4, iv s0_5, iv s0_6]]) fun wv61 =>
                  Ab.asTup wv61 2 fun wg62 =>
                  Ab.asInt (wg62 0) .i64 fun wn63 =>
                  Ab.asBool (wg62 1) fun wb64 =>
                  optK (br wb64
                      (optK (K f_search_dated [iv wn63, iv (w64 (k1_0 - 6)), iv k1_3]) fun wv66 =>
                      Ab.asBool wv66 fun wb67 =>
                      some (bv wb67))
                      (some (bv false))) fun wv65 =>
                  Ab.asBool wv65 fun wb68 =>
                  some (bv wb68))
                  (br (k1_0 == 9)
                    (optK (K f_head_Get [AV.lst 1 s0_3n s0_3, sv k1_1]) fun wv69 =>
                    Ab.asTup wv69 2 fun wg70 =>
                    Ab.asStr (wg70 0) fun ws71 =>
                    Ab.asBool (wg70 1) fun wb72 =>
                    optK (br wb72
                        (optK (K f_search_Has [sv ws71, sv k1_2]) fun wv74 =>
                        Ab.asBool wv74 fun wb75 =>
                        some (bv wb75))
                        (some (bv false))) fun wv73 =>
                    Ab.asBool wv73 fun wb76 =>
                    some (bv wb76))
                    (br (k1_0 == 10)
                      (optK (K f_head_Text [AV.lst 1 s0_3n s0_3]) fun wv77 =>
                      Ab.asInt wv77 .i64 fun wn78 =>
                      br (decide (0 ≤ wn78))
                        (br (decide (wn78 ≤ ((s0_3.length : Nat) : Int)))
                          (optK (rowsBytes (List.drop wn78.toNat s0_3)) fun wv79 =>
                          optK (K f_search_Has [sv ({ data := wv79.toArray } : ByteArray), sv k1_2]) fun wv80 =>
                          Ab.asBool wv80 fun wb81 =>
                          some (bv wb81))
                          (none))
                        (none))
                      (br (k1_0 == 11)
                        (optK (rowsBytes s0_3) fun wv82 =>
                        optK (K f_search_Has [sv ({ data := wv82.toArray } : ByteArray), sv k1_2]) fun wv83 =>
                        Ab.asBool wv83 fun wb84 =>
                        some (bv wb84))
                        (br (k1_0 == 12)
                          (some (bv (decide (((s0_3.length : Nat) : Int) > k1_3))))
                          (br (k1_0 == 13)
                            (some (bv (decide (((s0_3.length : Nat) : Int) < k1_3))))
                            (br (k1_0 == 14)
                              (optK (K f_uids_Has [AV.lst 2 k1_4n k1_4, iv s0_4, iv s0_5]) fun wv85 =>
                              Ab.asBool wv85 fun wb86 =>
                              some (bv wb86))
                              (br (k1_0 == 15)
                                (optK (K f_uids_Has [AV.lst 2 k1_4n k1_4, iv s0_0, iv s0_6]) fun wv87 =>
                                Ab.asBool wv87 fun wb88 =>
                                some (bv wb88))
                                (some (bv true)))))))))))))
          (br (k1_0 == 4)
            (br (k1_0 == 4)
              (optK (K f_date_Day [iv s0_2]) fun wv89 =>
              Ab.asInt wv89 .i64 fun wn90 =>
              optK (K f_search_dated [iv wn90, iv (w64 (k1_0 - 3)), iv k1_3]) fun wv91 =>
              Ab.asBool wv91 fun wb92 =>
              some (bv wb92))
              (br (k1_0 == 6)
                (br (k1_0 == 6)
                  (optK (K f_search_sight_sent [AV.agg [iv s0_0, iv s0_1, iv s0_2, AV.lst 1 s0_3n s0_3, iv s0_4, iv s0_5, iv s0_6]]) fun wv93 =>
                  Ab.asTup wv93 2 fun wg94 =>
                  Ab.asInt (wg94 0) .i64 fun wn95 =>
                  Ab.asBool (wg94 1) fun wb96 =>
                  optK (br wb96
                      (optK (K f_search_dated [iv wn95, iv (w64 (k1_0 - 6)), iv k1_3]) fun wv98 =>
                      Ab.asBool wv98 fun wb99 =>
                      some (bv wb99))
                      (some (bv false))) fun wv97 =>
                  Ab.asBool wv97 fun wb100 =>
                  some (bv wb100))
                  (br (k1_0 == 9)
                    (optK (K f_head_Get [AV.lst 1 s0_3n s0_3, sv k1_1]) fun wv101 =>
                    Ab.asTup wv101 2 fun wg102 =>
                    Ab.asStr (wg102 0) fun ws103 =>
                    Ab.asBool (wg102 1) fun wb104 =>
                    optK (br wb104
                        (optK (K f_search_Has [sv ws103, sv k1_2]) fun wv106 =>
                        Ab.asBool wv106 fun wb107 =>
                        some (bv wb107))
                        (some (bv false))) fun wv105 =>
                    Ab.asBool wv105 fun wb108 =>
                    some (bv wb108))
                    (br (k1_0 == 10)
                      (optK (K f_head_Text [AV.lst 1 s0_3n s0_3]) fun wv109 =>
                      Ab.asInt wv109 .i64 fun wn110 =>
                      br (decide (0 ≤ wn110))
                        (br (decide (wn110 ≤ ((s0_3.length : Nat) : Int)))
                          (optK (rowsBytes (List.drop wn110.toNat s0_3)) fun wv111 =>
                          optK (K f_search_Has [sv ({ data := wv111.toArray } : ByteArray), sv k1_2]) fun wv112 =>
                          Ab.asBool wv112 fun wb113 =>
                          some (bv wb113))
                          (none))
                        (none))
                      (br (k1_0 == 11)
                        (optK (rowsBytes s0_3) fun wv114 =>
                        optK (K f_search_Has [sv ({ data := wv114.toArray } : ByteArray), sv k1_2]) fun wv115 =>
                        Ab.asBool wv115 fun wb116 =>
                        some (bv wb116))
                        (br (k1_0 == 12)
                          (some (bv (decide (((s0_3.length : Nat) : Int) > k1_3))))
                          (br (k1_0 == 13)
                            (some (bv (decide (((s0_3.length : Nat) : Int) < k1_3))))
                            (br (k1_0 == 14)
                              (optK (K f_uids_Has [AV.lst 2 k1_4n k1_4, iv s0_4, iv s0_5]) fun wv117 =>
                              Ab.asBool wv117 fun wb118 =>
                              some (bv wb118))
                              (br (k1_0 == 15)
                                (optK (K f_uids_Has [AV.lst 2 k1_4n k1_4, iv s0_0, iv s0_6]) fun wv119 =>
                                Ab.asBool wv119 fun wb120 =>
                                some (bv wb120))
                                (some (bv true))))))))))
                (br (k1_0 == 7)
                  (br (k1_0 == 7)
                    (optK (K f_search_sight_sent [AV.agg [iv s0_0, iv s0_1, iv s0_2, AV.lst 1 s0_3n s0_3, iv s0_4, iv s0_5, iv s0_6]]) fun wv121 =>
                    Ab.asTup wv121 2 fun wg122 =>
                    Ab.asInt (wg122 0) .i64 fun wn123 =>
                    Ab.asBool (wg122 1) fun wb124 =>
                    optK (br wb124
                        (optK (K f_search_dated [iv wn123, iv (w64 (k1_0 - 6)), iv k1_3]) fun wv126 =>
                        Ab.asBool wv126 fun wb127 =>
                        some (bv wb127))
                        (some (bv false))) fun wv125 =>
                    Ab.asBool wv125 fun wb128 =>
                    some (bv wb128))
                    (br (k1_0 == 9)
                      (optK (K f_head_Get [AV.lst 1 s0_3n s0_3, sv k1_1]) fun wv129 =>
                      Ab.asTup wv129 2 fun wg130 =>
                      Ab.asStr (wg130 0) fun ws131 =>
                      Ab.asBool (wg130 1) fun wb132 =>
                      optK (br wb132
                          (optK (K f_search_Has [sv ws131, sv k1_2]) fun wv134 =>
                          Ab.asBool wv134 fun wb135 =>
                          some (bv wb135))
                          (some (bv false))) fun wv133 =>
                      Ab.asBool wv133 fun wb136 =>
                      some (bv wb136))
                      (br (k1_0 == 10)
                        (optK (K f_head_Text [AV.lst 1 s0_3n s0_3]) fun wv137 =>
                        Ab.asInt wv137 .i64 fun wn138 =>
                        br (decide (0 ≤ wn138))
                          (br (decide (wn138 ≤ ((s0_3.length : Nat) : Int)))
                            (optK (rowsBytes (List.drop wn138.toNat s0_3)) fun wv139 =>
                            optK (K f_search_Has [sv ({ data := wv139.toArray } : ByteArray), sv k1_2]) fun wv140 =>
                            Ab.asBool wv140 fun wb141 =>
                            some (bv wb141))
                            (none))
                          (none))
                        (br (k1_0 == 11)
                          (optK (rowsBytes s0_3) fun wv142 =>
                          optK (K f_search_Has [sv ({ data := wv142.toArray } : ByteArray), sv k1_2]) fun wv143 =>
                          Ab.asBool wv143 fun wb144 =>
                          some (bv wb144))
                          (br (k1_0 == 12)
                            (some (bv (decide (((s0_3.length : Nat) : Int) > k1_3))))
                            (br (k1_0 == 13)
                              (some (bv (decide (((s0_3.length : Nat) : Int) < k1_3))))
                              (br (k1_0 == 14)
                                (optK (K f_uids_Has [AV.lst 2 k1_4n k1_4, iv s0_4, iv s0_5]) fun wv145 =>
                                Ab.asBool wv145 fun wb146 =>
                                some (bv wb146))
                                (br (k1_0 == 15)
                                  (optK (K f_uids_Has [AV.lst 2 k1_4n k1_4, iv s0_0, iv s0_6]) fun wv147 =>
                                  Ab.asBool wv147 fun wb148 =>
                                  some (bv wb148))
                                  (some (bv true))))))))))
                  (br (k1_0 == 8)
                    (optK (K f_search_sight_sent [AV.agg [iv s0_0, iv s0_1, iv s0_2, AV.lst 1 s0_3n s0_3, iv s0_4, iv s0_5, iv s0_6]]) fun wv149 =>
                    Ab.asTup wv149 2 fun wg150 =>
                    Ab.asInt (wg150 0) .i64 fun wn151 =>
                    Ab.asBool (wg150 1) fun wb152 =>
                    optK (br wb152
                        (optK (K f_search_dated [iv wn151, iv (w64 (k1_0 - 6)), iv k1_3]) fun wv154 =>
                        Ab.asBool wv154 fun wb155 =>
                        some (bv wb155))
                        (some (bv false))) fun wv153 =>
                    Ab.asBool wv153 fun wb156 =>
                    some (bv wb156))
                    (br (k1_0 == 9)
                      (optK (K f_head_Get [AV.lst 1 s0_3n s0_3, sv k1_1]) fun wv157 =>
                      Ab.asTup wv157 2 fun wg158 =>
                      Ab.asStr (wg158 0) fun ws159 =>
                      Ab.asBool (wg158 1) fun wb160 =>
                      optK (br wb160
                          (optK (K f_search_Has [sv ws159, sv k1_2]) fun wv162 =>
                          Ab.asBool wv162 fun wb163 =>
                          some (bv wb163))
                          (some (bv false))) fun wv161 =>
                      Ab.asBool wv161 fun wb164 =>
                      some (bv wb164))
                      (br (k1_0 == 10)
                        (optK (K f_head_Text [AV.lst 1 s0_3n s0_3]) fun wv165 =>
                        Ab.asInt wv165 .i64 fun wn166 =>
                        br (decide (0 ≤ wn166))
                          (br (decide (wn166 ≤ ((s0_3.length : Nat) : Int)))
                            (optK (rowsBytes (List.drop wn166.toNat s0_3)) fun wv167 =>
                            optK (K f_search_Has [sv ({ data := wv167.toArray } : ByteArray), sv k1_2]) fun wv168 =>
                            Ab.asBool wv168 fun wb169 =>
                            some (bv wb169))
                            (none))
                          (none))
                        (br (k1_0 == 11)
                          (optK (rowsBytes s0_3) fun wv170 =>
                          optK (K f_search_Has [sv ({ data := wv170.toArray } : ByteArray), sv k1_2]) fun wv171 =>
                          Ab.asBool wv171 fun wb172 =>
                          some (bv wb172))
                          (br (k1_0 == 12)
                            (some (bv (decide (((s0_3.length : Nat) : Int) > k1_3))))
                            (br (k1_0 == 13)
                              (some (bv (decide (((s0_3.length : Nat) : Int) < k1_3))))
                              (br (k1_0 == 14)
                                (optK (K f_uids_Has [AV.lst 2 k1_4n k1_4, iv s0_4, iv s0_5]) fun wv173 =>
                                Ab.asBool wv173 fun wb174 =>
                                some (bv wb174))
                                (br (k1_0 == 15)
                                  (optK (K f_uids_Has [AV.lst 2 k1_4n k1_4, iv s0_0, iv s0_6]) fun wv175 =>
                                  Ab.asBool wv175 fun wb176 =>
                                  some (bv wb176))
                                  (some (bv true)))))))))))))
            (br (k1_0 == 5)
              (optK (K f_date_Day [iv s0_2]) fun wv177 =>
              Ab.asInt wv177 .i64 fun wn178 =>
              optK (K f_search_dated [iv wn178, iv (w64 (k1_0 - 3)), iv k1_3]) fun wv179 =>
              Ab.asBool wv179 fun wb180 =>
              some (bv wb180))
              (br (k1_0 == 6)
                (br (k1_0 == 6)
                  (optK (K f_search_sight_sent [AV.agg [iv s0_0, iv s0_1, iv s0_2, AV.lst 1 s0_3n s0_3, iv s0_4, iv s0_5, iv s0_6]]) fun wv181 =>
                  Ab.asTup wv181 2 fun wg182 =>
                  Ab.asInt (wg182 0) .i64 fun wn183 =>
                  Ab.asBool (wg182 1) fun wb184 =>
                  optK (br wb184
                      (optK (K f_search_dated [iv wn183, iv (w64 (k1_0 - 6)), iv k1_3]) fun wv186 =>
                      Ab.asBool wv186 fun wb187 =>
                      some (bv wb187))
                      (some (bv false))) fun wv185 =>
                  Ab.asBool wv185 fun wb188 =>
                  some (bv wb188))
                  (br (k1_0 == 9)
                    (optK (K f_head_Get [AV.lst 1 s0_3n s0_3, sv k1_1]) fun wv189 =>
                    Ab.asTup wv189 2 fun wg190 =>
                    Ab.asStr (wg190 0) fun ws191 =>
                    Ab.asBool (wg190 1) fun wb192 =>
                    optK (br wb192
                        (optK (K f_search_Has [sv ws191, sv k1_2]) fun wv194 =>
                        Ab.asBool wv194 fun wb195 =>
                        some (bv wb195))
                        (some (bv false))) fun wv193 =>
                    Ab.asBool wv193 fun wb196 =>
                    some (bv wb196))
                    (br (k1_0 == 10)
                      (optK (K f_head_Text [AV.lst 1 s0_3n s0_3]) fun wv197 =>
                      Ab.asInt wv197 .i64 fun wn198 =>
                      br (decide (0 ≤ wn198))
                        (br (decide (wn198 ≤ ((s0_3.length : Nat) : Int)))
                          (optK (rowsBytes (List.drop wn198.toNat s0_3)) fun wv199 =>
                          optK (K f_search_Has [sv ({ data := wv199.toArray } : ByteArray), sv k1_2]) fun wv200 =>
                          Ab.asBool wv200 fun wb201 =>
                          some (bv wb201))
                          (none))
                        (none))
                      (br (k1_0 == 11)
                        (optK (rowsBytes s0_3) fun wv202 =>
                        optK (K f_search_Has [sv ({ data := wv202.toArray } : ByteArray), sv k1_2]) fun wv203 =>
                        Ab.asBool wv203 fun wb204 =>
                        some (bv wb204))
                        (br (k1_0 == 12)
                          (some (bv (decide (((s0_3.length : Nat) : Int) > k1_3))))
                          (br (k1_0 == 13)
                            (some (bv (decide (((s0_3.length : Nat) : Int) < k1_3))))
                            (br (k1_0 == 14)
                              (optK (K f_uids_Has [AV.lst 2 k1_4n k1_4, iv s0_4, iv s0_5]) fun wv205 =>
                              Ab.asBool wv205 fun wb206 =>
                              some (bv wb206))
                              (br (k1_0 == 15)
                                (optK (K f_uids_Has [AV.lst 2 k1_4n k1_4, iv s0_0, iv s0_6]) fun wv207 =>
                                Ab.asBool wv207 fun wb208 =>
                                some (bv wb208))
                                (some (bv true))))))))))
                (br (k1_0 == 7)
                  (br (k1_0 == 7)
                    (optK (K f_search_sight_sent [AV.agg [iv s0_0, iv s0_1, iv s0_2, AV.lst 1 s0_3n s0_3, iv s0_4, iv s0_5, iv s0_6]]) fun wv209 =>
                    Ab.asTup wv209 2 fun wg210 =>
                    Ab.asInt (wg210 0) .i64 fun wn211 =>
                    Ab.asBool (wg210 1) fun wb212 =>
                    optK (br wb212
                        (optK (K f_search_dated [iv wn211, iv (w64 (k1_0 - 6)), iv k1_3]) fun wv214 =>
                        Ab.asBool wv214 fun wb215 =>
                        some (bv wb215))
                        (some (bv false))) fun wv213 =>
                    Ab.asBool wv213 fun wb216 =>
                    some (bv wb216))
                    (br (k1_0 == 9)
                      (optK (K f_head_Get [AV.lst 1 s0_3n s0_3, sv k1_1]) fun wv217 =>
                      Ab.asTup wv217 2 fun wg218 =>
                      Ab.asStr (wg218 0) fun ws219 =>
                      Ab.asBool (wg218 1) fun wb220 =>
                      optK (br wb220
                          (optK (K f_search_Has [sv ws219, sv k1_2]) fun wv222 =>
                          Ab.asBool wv222 fun wb223 =>
                          some (bv wb223))
                          (some (bv false))) fun wv221 =>
                      Ab.asBool wv221 fun wb224 =>
                      some (bv wb224))
                      (br (k1_0 == 10)
                        (optK (K f_head_Text [AV.lst 1 s0_3n s0_3]) fun wv225 =>
                        Ab.asInt wv225 .i64 fun wn226 =>
                        br (decide (0 ≤ wn226))
                          (br (decide (wn226 ≤ ((s0_3.length : Nat) : Int)))
                            (optK (rowsBytes (List.drop wn226.toNat s0_3)) fun wv227 =>
                            optK (K f_search_Has [sv ({ data := wv227.toArray } : ByteArray), sv k1_2]) fun wv228 =>
                            Ab.asBool wv228 fun wb229 =>
                            some (bv wb229))
                            (none))
                          (none))
                        (br (k1_0 == 11)
                          (optK (rowsBytes s0_3) fun wv230 =>
                          optK (K f_search_Has [sv ({ data := wv230.toArray } : ByteArray), sv k1_2]) fun wv231 =>
                          Ab.asBool wv231 fun wb232 =>
                          some (bv wb232))
                          (br (k1_0 == 12)
                            (some (bv (decide (((s0_3.length : Nat) : Int) > k1_3))))
                            (br (k1_0 == 13)
                              (some (bv (decide (((s0_3.length : Nat) : Int) < k1_3))))
                              (br (k1_0 == 14)
                                (optK (K f_uids_Has [AV.lst 2 k1_4n k1_4, iv s0_4, iv s0_5]) fun wv233 =>
                                Ab.asBool wv233 fun wb234 =>
                                some (bv wb234))
                                (br (k1_0 == 15)
                                  (optK (K f_uids_Has [AV.lst 2 k1_4n k1_4, iv s0_0, iv s0_6]) fun wv235 =>
                                  Ab.asBool wv235 fun wb236 =>
                                  some (bv wb236))
                                  (some (bv true))))))))))
                  (br (k1_0 == 8)
                    (optK (K f_search_sight_sent [AV.agg [iv s0_0, iv s0_1, iv s0_2, AV.lst 1 s0_3n s0_3, iv s0_4, iv s0_5, iv s0_6]]) fun wv237 =>
                    Ab.asTup wv237 2 fun wg238 =>
                    Ab.asInt (wg238 0) .i64 fun wn239 =>
                    Ab.asBool (wg238 1) fun wb240 =>
                    optK (br wb240
                        (optK (K f_search_dated [iv wn239, iv (w64 (k1_0 - 6)), iv k1_3]) fun wv242 =>
                        Ab.asBool wv242 fun wb243 =>
                        some (bv wb243))
                        (some (bv false))) fun wv241 =>
                    Ab.asBool wv241 fun wb244 =>
                    some (bv wb244))
                    (br (k1_0 == 9)
                      (optK (K f_head_Get [AV.lst 1 s0_3n s0_3, sv k1_1]) fun wv245 =>
                      Ab.asTup wv245 2 fun wg246 =>
                      Ab.asStr (wg246 0) fun ws247 =>
                      Ab.asBool (wg246 1) fun wb248 =>
                      optK (br wb248
                          (optK (K f_search_Has [sv ws247, sv k1_2]) fun wv250 =>
                          Ab.asBool wv250 fun wb251 =>
                          some (bv wb251))
                          (some (bv false))) fun wv249 =>
                      Ab.asBool wv249 fun wb252 =>
                      some (bv wb252))
                      (br (k1_0 == 10)
                        (optK (K f_head_Text [AV.lst 1 s0_3n s0_3]) fun wv253 =>
                        Ab.asInt wv253 .i64 fun wn254 =>
                        br (decide (0 ≤ wn254))
                          (br (decide (wn254 ≤ ((s0_3.length : Nat) : Int)))
                            (optK (rowsBytes (List.drop wn254.toNat s0_3)) fun wv255 =>
                            optK (K f_search_Has [sv ({ data := wv255.toArray } : ByteArray), sv k1_2]) fun wv256 =>
                            Ab.asBool wv256 fun wb257 =>
                            some (bv wb257))
                            (none))
                          (none))
                        (br (k1_0 == 11)
                          (optK (rowsBytes s0_3) fun wv258 =>
                          optK (K f_search_Has [sv ({ data := wv258.toArray } : ByteArray), sv k1_2]) fun wv259 =>
                          Ab.asBool wv259 fun wb260 =>
                          some (bv wb260))
                          (br (k1_0 == 12)
                            (some (bv (decide (((s0_3.length : Nat) : Int) > k1_3))))
                            (br (k1_0 == 13)
                              (some (bv (decide (((s0_3.length : Nat) : Int) < k1_3))))
                              (br (k1_0 == 14)
                                (optK (K f_uids_Has [AV.lst 2 k1_4n k1_4, iv s0_4, iv s0_5]) fun wv261 =>
                                Ab.asBool wv261 fun wb262 =>
                                some (bv wb262))
                                (br (k1_0 == 15)
                                  (optK (K f_uids_Has [AV.lst 2 k1_4n k1_4, iv s0_0, iv s0_6]) fun wv263 =>
                                  Ab.asBool wv263 fun wb264 =>
                                  some (bv wb264))
                                  (some (bv true))))))))))))))))
theorem topsearch_sight_finds (K : PureK) (s0_0 : Int) (s0_1 : Int) (s0_2 : Int) (s0_3n : Bool) (s0_3 : List AV) (s0_4 : Int) (s0_5 : Int) (s0_6 : Int) (k1_0 : Int) (k1_1 : ByteArray) (k1_2 : ByteArray) (k1_3 : Int) (k1_4n : Bool) (k1_4 : List AV) (k1_5 : Int) (k1_6 : Int) : topK (XM m) K 0 f_search_sight_finds [(.agg [(.v (.int .i64 s0_0)), (.v (.int .i64 s0_1)), (.v (.int .i64 s0_2)), (.lst 1 s0_3n s0_3), (.v (.int .i64 s0_4)), (.v (.int .i64 s0_5)), (.v (.int .i64 s0_6))]), (.agg [(.v (.int .i64 k1_0)), (.v (.string k1_1)), (.v (.string k1_2)), (.v (.int .i64 k1_3)), (.lst 2 k1_4n k1_4), (.v (.int .i64 k1_5)), (.v (.int .i64 k1_6))])] = Rsearch_sight_finds K s0_0 s0_1 s0_2 s0_3n s0_3 s0_4 s0_5 s0_6 k1_0 k1_1 k1_2 k1_3 k1_4n k1_4 k1_5 k1_6 := by kernel_rfl
theorem pcsearch_sight_finds {K : PureK} (hK : KOk (XM m) K) {s0_0 : Int} {s0_1 : Int} {s0_2 : Int} {s0_3n : Bool} {s0_3 : List AV} {s0_4 : Int} {s0_5 : Int} {s0_6 : Int} {k1_0 : Int} {k1_1 : ByteArray} {k1_2 : ByteArray} {k1_3 : Int} {k1_4n : Bool} {k1_4 : List AV} {k1_5 : Int} {k1_6 : Int} {v : AV} (h : Rsearch_sight_finds K s0_0 s0_1 s0_2 s0_3n s0_3 s0_4 s0_5 s0_6 k1_0 k1_1 k1_2 k1_3 k1_4n k1_4 k1_5 k1_6 = some v) : PureCall (XM m) f_search_sight_finds [(.agg [(.v (.int .i64 s0_0)), (.v (.int .i64 s0_1)), (.v (.int .i64 s0_2)), (.lst 1 s0_3n s0_3), (.v (.int .i64 s0_4)), (.v (.int .i64 s0_5)), (.v (.int .i64 s0_6))]), (.agg [(.v (.int .i64 k1_0)), (.v (.string k1_1)), (.v (.string k1_2)), (.v (.int .i64 k1_3)), (.lst 2 k1_4n k1_4), (.v (.int .i64 k1_5)), (.v (.int .i64 k1_6))])] v := by
  have hSo0 := (soundXM m)
  exact tell_top (X := (XM m)) (Y := (XM m)) rfl rfl hSo0 hK ((topsearch_sight_finds K s0_0 s0_1 s0_2 s0_3n s0_3 s0_4 s0_5 s0_6 k1_0 k1_1 k1_2 k1_3 k1_4n k1_4 k1_5 k1_6).trans h)

end
end Go.Proofs.YtkkbdebmilagoaaGreatDoor
