import Derived.Test.YtkkbdebmilagoaaGreatDoorSeN
import Derived.Test.YtkkbdebmilagoaaGreatDoorSeX
import Derived.Test.YtkkbdebmilagoaaGreatDoorAbSpec
set_option linter.unusedVariables false
set_option linter.unusedSimpArgs false
set_option maxRecDepth 100000
namespace Go.Proofs.YtkkbdebmilagoaaGreatDoor
/- search.Match as a pure call. -/
open Go Go.Ab

/-- A key. -/
structure KeyR where
  op : Int
  nm : ByteArray
  tx : ByteArray
  kn : Int
  sb : Bool
  sl : List AV
  a : Nat
  b : Nat
def KeyR.cells (k : KeyR) : List AV := [iv k.op, sv k.nm, sv k.tx, iv k.kn, .lst 2 k.sb k.sl, iv k.a, iv k.b]
def KeyR.av (k : KeyR) : AV := .agg k.cells
def KeyR.dft : KeyR := ⟨0, ⟨#[]⟩, ⟨#[]⟩, 0, true, [], 0, 0⟩
/-- A message. -/
structure MsgR where
  uid : Int
  fl : Int
  dt : Int
  bb : Bool
  bo : List AV
def MsgR.av (x : MsgR) : AV := .agg [iv x.uid, iv x.fl, iv x.dt, .lst 1 x.bb x.bo]
def MsgR.sight (x : MsgR) (p lp lu : Int) : AV := .agg [iv x.uid, iv x.fl, iv x.dt, .lst 1 x.bb x.bo, iv p, iv lp, iv lu]
/-- A slice's value has the slice's form. -/
theorem lst_value {s : St} {es : Nat} {b : Bool} {rows : List AV} {v : Value} (h : Rel s (.lst es b rows) v) : ∃ p c, v = .slice p rows.length c := by
  cases h with
  | nil => exact ⟨_, _, rfl⟩
  | empty => exact ⟨_, _, rfl⟩
  | lst => exact ⟨_, _, rfl⟩
theorem agg_values {s : St} {cs : List AV} {v : Value} (h : Rel s (.agg cs) v) : ∃ vs : Array Value, v = .agg vs ∧ vs.size = cs.length ∧ ∀ (j : Nat) (x : AV) (y : Value), cs[j]? = some x → vs[j]? = some y → Rel s x y := by
  cases h with
  | agg _ vs h1 _ h => exact ⟨vs, rfl, h1, h⟩
theorem arr5 {α : Type} (vs : Array α) (h : vs.size = 5) : ∃ a b c d e, vs = #[a, b, c, d, e] := by
  obtain ⟨l⟩ := vs
  match l, h with
  | [a, b, c, d, e], _ => exact ⟨a, b, c, d, e, rfl⟩
theorem arr4 {α : Type} (vs : Array α) (h : vs.size = 4) : ∃ a b c d, vs = #[a, b, c, d] := by
  obtain ⟨l⟩ := vs
  match l, h with
  | [a, b, c, d], _ => exact ⟨a, b, c, d, rfl⟩
theorem rel_agg7 {s : St} {x0 x1 x2 x3 x4 x5 x6 : AV} {v0 v1 v2 v3 v4 v5 v6 : Value} (hc : ∀ c ∈ [x0, x1, x2, x3, x4, x5, x6], isCell c = true) (h0 : Rel s x0 v0) (h1 : Rel s x1 v1) (h2 : Rel s x2 v2) (h3 : Rel s x3 v3) (h4 : Rel s x4 v4) (h5 : Rel s x5 v5) (h6 : Rel s x6 v6) :
    Rel s (.agg [x0, x1, x2, x3, x4, x5, x6]) (.agg #[v0, v1, v2, v3, v4, v5, v6]) := by
  refine .agg _ _ rfl hc fun j x y hx hy => ?_
  match j with
  | 0 => simp at hx hy; subst hx hy; exact h0
  | 1 => simp at hx hy; subst hx hy; exact h1
  | 2 => simp at hx hy; subst hx hy; exact h2
  | 3 => simp at hx hy; subst hx hy; exact h3
  | 4 => simp at hx hy; subst hx hy; exact h4
  | 5 => simp at hx hy; subst hx hy; exact h5
  | 6 => simp at hx hy; subst hx hy; exact h6
  | j + 7 => simp at hx
theorem rels_two {s : St} {a b : AV} {x y : Value} (h : Rel s a x) (h2 : Rel s b y) : Rels s [a, b] #[x, y] :=
  ⟨rfl, fun j u v hu hv => by
    match j with
    | 0 => simp at hu hv; subst hu hv; exact h
    | 1 => simp at hu hv; subst hu hv; exact h2
    | j + 2 => simp at hu⟩
theorem rels_one {s : St} {a : AV} {x : Value} (h : Rel s a x) : Rels s [a] #[x] :=
  ⟨rfl, fun j u v hu hv => by
    match j with
    | 0 => simp at hu hv; subst hu hv; exact h
    | j + 1 => simp at hu⟩
section
variable {m : Int}
/-- A pure call that answers a truth. -/
theorem calls_bool {g : FuncId} {fn : Func} {c : Code} {xs : List AV} {v : Bool} (h : PureCall (XM m) g xs (bv v)) (hfn : Tryz.prog.funcs[g]? = some fn) (hbody : fn.body = some c) (hname : (fn.name == "runtime.NumGoroutine") = false)
    {s : St} (hok : Ok (XM m) s) (hH : s.H = []) {W : World} (hW : Past s.w.heap.size s.w W) {args : Array Value} (hr : Rels { s with w := W } xs args) :
    Calls Tryz.prog g args W fun e W' => e = .returned (.bool v) ∧ Past W.heap.size W W' := by
  refine (pure_calls h hfn hbody hname hok hH hW hr).mono ?_
  rintro e W' ⟨cv, rfl, h1, h2, h3⟩
  obtain ⟨rfl, _⟩ := h3.v_inv
  exact ⟨rfl, h1⟩
theorem rel_bool {s : St} (b : Bool) : Rel s (bv b) (.bool b) := .v _ rfl
/-- Match, of keys that may not be. -/
theorem pure_match_no {nb : Bool} {rows : List AV} {x : MsgR} {p lp lu : Int} (hR : PureCall (XM m) 16 [.lst 7 nb rows] (bv false)) : PureCall (XM m) 9 [.lst 7 nb rows, x.av, iv p, iv lp, iv lu] (bv false) := by
  refine pure_of_calls (fn := Tryz.f9) (c := _) Tryz.func9 rfl (by kernel_rfl) rfl fun s hok hH cs hr => ?_
  obtain ⟨c0, c1, c2, c3, c4, rfl⟩ := arr5 cs hr.1
  have r0 := hr.2 0 _ _ rfl rfl
  have r1 := hr.2 1 _ _ rfl rfl
  obtain ⟨rfl, _⟩ := (hr.2 2 _ _ rfl rfl).v_inv
  obtain ⟨rfl, _⟩ := (hr.2 3 _ _ rfl rfl).v_inv
  obtain ⟨rfl, _⟩ := (hr.2 4 _ _ rfl rfl).v_inv
  obtain ⟨q, c, rfl⟩ := lst_value r0
  obtain ⟨vs, rfl, hn, r1⟩ := agg_values r1
  obtain ⟨v0, v1, v2, v3, rfl⟩ := arr4 vs hn
  obtain ⟨rfl, _⟩ := (r1 0 _ _ rfl rfl).v_inv
  obtain ⟨rfl, _⟩ := (r1 1 _ _ rfl rfl).v_inv
  obtain ⟨rfl, _⟩ := (r1 2 _ _ rfl rfl).v_inv
  obtain ⟨bp, bc, rfl⟩ := lst_value (r1 3 _ _ rfl rfl)
  refine (match_not_right (w0 := s.w) _ _ _ bp _ bc _ _ _ q _ c fun W' hW => calls_bool hR Tryz.func16 rfl (by kernel_rfl) hok hH hW (rels_one (r0.mono (st_at hok hH hW).1))).mono ?_
  rintro e W' ⟨rfl, hp⟩
  exact ⟨_, rfl, hp, rel_bool _⟩
/-- A key as it lies in memory. -/
def KeyR.at (k : KeyR) (v : Value) : KeyP := match v with
  | .slice p n c => ⟨k.op, k.nm, k.tx, k.kn, p, n, c, k.a, k.b⟩
  | _ => ⟨k.op, k.nm, k.tx, k.kn, none, 0, 0, k.a, k.b⟩
theorem KeyR.at_op (k : KeyR) (v : Value) : (k.at v).op = k.op ∧ (k.at v).a = k.a ∧ (k.at v).b = k.b := by cases v <;> exact ⟨rfl, rfl, rfl⟩
structure KeyROk (keys : Nat → KeyR) (ev : Nat → Bool) (N : Nat) : Prop where
  not : ∀ i, i < N → (keys i).op = 16 → (keys i).a < i ∧ ev i = !ev (keys i).a
  or : ∀ i, i < N → (keys i).op = 17 → ((keys i).a < i ∧ (keys i).b < i) ∧ ev i = (ev (keys i).a || ev (keys i).b)
  and : ∀ i, i < N → (keys i).op = 18 → ((keys i).a < i ∧ (keys i).b < i) ∧ ev i = (ev (keys i).a && ev (keys i).b)
theorem pure_match {keys : List KeyR} {x : MsgR} {p lp lu : Int} {ev : Nat → Bool} (hN : keys.length < 1000) (hN1 : 1 ≤ keys.length) (hko : KeyROk (fun i => keys.getD i KeyR.dft) ev keys.length)
    (hR : PureCall (XM m) 16 [.lst 7 false (keys.map KeyR.av)] (bv true))
    (hfin : ∀ i k, keys[i]? = some k → k.op ≠ 16 → k.op ≠ 17 → k.op ≠ 18 → PureCall (XM m) 21 [x.sight p lp lu, k.av] (bv (ev i))) :
    PureCall (XM m) 9 [.lst 7 false (keys.map KeyR.av), x.av, iv p, iv lp, iv lu] (bv (ev (keys.length - 1))) := by
  refine pure_of_calls (fn := Tryz.f9) (c := _) Tryz.func9 rfl (by kernel_rfl) rfl fun s hok hH cs hr => ?_
  obtain ⟨c0, c1, c2, c3, c4, rfl⟩ := arr5 cs hr.1
  have r0 := hr.2 0 _ _ rfl rfl
  have r1 := hr.2 1 _ _ rfl rfl
  obtain ⟨rfl, _⟩ := (hr.2 2 _ _ rfl rfl).v_inv
  obtain ⟨rfl, _⟩ := (hr.2 3 _ _ rfl rfl).v_inv
  obtain ⟨rfl, _⟩ := (hr.2 4 _ _ rfl rfl).v_inv
  obtain ⟨vs, rfl, hn, r1⟩ := agg_values r1
  obtain ⟨v0, v1, v2, v3, rfl⟩ := arr4 vs hn
  obtain ⟨rfl, _⟩ := (r1 0 _ _ rfl rfl).v_inv
  obtain ⟨rfl, _⟩ := (r1 1 _ _ rfl rfl).v_inv
  obtain ⟨rfl, _⟩ := (r1 2 _ _ rfl rfl).v_inv
  have rb := r1 3 _ _ rfl rfl
  obtain ⟨bp, bc, rfl⟩ := lst_value rb
  have r0' := r0
  generalize hrows : keys.map KeyR.av = rows at r0
  cases r0 with
  | empty => simp at hrows; subst hrows; cases hN1
  | lst _ _ b off cap vals hcap hpriv hes hfree hcell hc hv =>
    have hne : rows ≠ [] := by rintro rfl; simp at hrows; subst hrows; cases hN1
    have hlen : rows.length = keys.length := by rw [← hrows]; simp
    obtain ⟨hbl, _⟩ := hpriv hne
    have hrow : ∀ i, i < keys.length → ∃ k, keys[i]? = some k ∧ keys.getD i KeyR.dft = k ∧ rows[i]? = some k.av := fun i hi => by
      refine ⟨keys[i], List.getElem?_eq_getElem hi, ?_, ?_⟩
      · simp [List.getD, List.getElem?_eq_getElem hi]
      · rw [← hrows]; simp [List.getElem?_eq_getElem hi]
    have hcellv : ∀ (i : Nat) (k : KeyR), i < keys.length → rows[i]? = some k.av → vals i 0 = .int .i64 k.op ∧ vals i 1 = .string k.nm ∧ vals i 2 = .string k.tx ∧ vals i 3 = .int .i64 k.kn ∧ (∃ sp sk, vals i 4 = .slice sp k.sl.length sk) ∧ vals i 5 = .int .i64 k.a ∧ vals i 6 = .int .i64 k.b := fun i k hi hk => by
      refine ⟨(hv i 0 _ _ hk rfl).v_inv.1, (hv i 1 _ _ hk rfl).v_inv.1, (hv i 2 _ _ hk rfl).v_inv.1, (hv i 3 _ _ hk rfl).v_inv.1, lst_value (hv i 4 _ _ hk rfl), (hv i 5 _ _ hk rfl).v_inv.1, (hv i 6 _ _ hk rfl).v_inv.1⟩
    refine (match_top (w0 := s.w) (ev := ev) (N := rows.length) _ _ _ bp _ bc _ _ _ b off cap (fun i => (keys.getD i KeyR.dft).at (vals i 4)) ?_ ?_ hbl (by omega) (by omega) ?_ ?_).mono ?_
    · rw [hlen]
      refine ⟨fun i hi h => ?_, fun i hi h => ?_, fun i hi h => ?_⟩
      · obtain ⟨h1, h2, h3⟩ := (keys.getD i KeyR.dft).at_op (vals i 4)
        simp only [h1] at h; simp only [h2]
        exact hko.not i hi h
      · obtain ⟨h1, h2, h3⟩ := (keys.getD i KeyR.dft).at_op (vals i 4)
        simp only [h1] at h; simp only [h2, h3]
        exact hko.or i hi h
      · obtain ⟨h1, h2, h3⟩ := (keys.getD i KeyR.dft).at_op (vals i 4)
        simp only [h1] at h; simp only [h2, h3]
        exact hko.and i hi h
    · rw [hlen]
      intro i hi
      obtain ⟨k, hk, hkd, hkr⟩ := hrow i hi
      simp only [hkd]
      obtain ⟨e0, e1, e2, e3, ⟨sp, sk, e4⟩, e5, e6⟩ := hcellv i k hi hkr
      have hcc := fun j (hj : j < 7) => hc i j (by omega) hj
      have f0 := hcc 0 (by omega)
      have f1 := hcc 1 (by omega)
      have f2 := hcc 2 (by omega)
      have f3 := hcc 3 (by omega)
      have f4 := hcc 4 (by omega)
      have f5 := hcc 5 (by omega)
      have f6 := hcc 6 (by omega)
      rw [e0] at f0; rw [e1] at f1; rw [e2] at f2; rw [e3] at f3; rw [e4] at f4; rw [e5] at f5; rw [e6] at f6
      rw [e4]
      exact ⟨f0, f1, f2, f3, f4, f5, f6⟩
    · intro W' hW
      refine calls_bool hR Tryz.func16 rfl (by kernel_rfl) hok hH hW (rels_one ?_)
      exact r0'.mono (st_at hok hH hW).1
    · rw [hlen]
      intro i hi h16 h17 h18 W' hW
      obtain ⟨k, hk, hkd, hkr⟩ := hrow i hi
      simp only [hkd] at h16 h17 h18 ⊢
      obtain ⟨h1, h2, h3⟩ := k.at_op (vals i 4)
      rw [h1] at h16 h17 h18
      have hst := (st_at hok hH hW).1
      obtain ⟨e0, e1, e2, e3, ⟨sp, sk, e4⟩, e5, e6⟩ := hcellv i k hi hkr
      refine calls_bool (hfin i k hk h16 h17 h18) Tryz.func21 rfl (by kernel_rfl) hok hH hW (rels_two ?_ ?_)
      · exact rel_agg7 (by simp [isCell, iv]) (.v _ rfl) (.v _ rfl) (.v _ rfl) (rb.mono hst) (.v _ rfl) (.v _ rfl) (.v _ rfl)
      · have h4 := hv i 4 _ _ hkr rfl
        rw [e4] at h4 ⊢
        exact rel_agg7 (by simp [isCell, iv, sv]) (.v _ rfl) (.v _ rfl) (.v _ rfl) (.v _ rfl) (h4.mono hst) (.v _ rfl) (.v _ rfl)
    · rintro e W' ⟨rfl, hp⟩
      rw [hlen]
      exact ⟨_, rfl, hp, rel_bool _⟩
end
end Go.Proofs.YtkkbdebmilagoaaGreatDoor
