/- Each operation of the abstract machine is the model's: numbers, texts, cuts. -/
import Derived.Test.YtkkbdebmilagoaaGreatDoorAbOps
import Derived.Laws.BytesString
import Derived.Lib.ConvBytes
import Derived.Laws.StructEq
set_option linter.unusedSimpArgs false
set_option linter.unusedVariables false
namespace Go.Ab
open Go

section
variable {X : Ctx} {s : St} {g : FuncId} {o : Oper} {ρ : Operand → AV} {av : Operand → Value} {v : AV} {h' : Heap} {tg : Tag}

theorem scal_run {α : Type} {P : Program} : ∀ {x : Sem α} {a : α}, scal P x = some a → ∀ w, x.run P w = .ok a w := by
  intro x
  induction x with
  | pure b => intro a h w; simp [scal] at h; subst h; rfl
  | program k ih => intro a h w; simp only [scal] at h; exact ih P h w
  | mark m k ih => intro a h w; simp only [scal] at h; exact ih h w
  | _ => intro a h w; simp [scal] at h

theorem strEq_eq (x y : ByteArray) : strEq x y = (x.toList == y.toList) := by
  rw [ByteArray.toList_eq, ByteArray.toList_eq]; rfl

theorem strLt_eq (x y : ByteArray) : strLt x y = Op.bytesLess x.toList y.toList := by
  rw [ByteArray.toList_eq, ByteArray.toList_eq]; rfl

theorem eqLeaf_run {P : Program} {t : TypeId} {x y : AV} {u w' : Value} {b : Bool} {d : Nat} (e : eqLeaf P t x y = some b) (hx : Rel s x u) (hy : Rel s y w') (w : World) :
    (Op.equalIn (d + 1) t u w').run P w = .ok b w := by
  unfold eqLeaf at e
  split at e
  · rename_i hu
    obtain ⟨rfl, e⟩ := ite_yes e
    obtain ⟨rfl, _⟩ := hx.v_inv
    obtain ⟨rfl, _⟩ := hy.v_inv
    simp at e
    rw [run_equalIn_int _ _ _ _ _ _ _ hu, e]
  · rename_i hu
    obtain ⟨rfl, _⟩ := hx.v_inv
    obtain ⟨rfl, _⟩ := hy.v_inv
    simp at e
    rw [run_equalIn_string _ _ _ _ _ hu, ← strEq_eq, e]
  · rename_i hu
    obtain ⟨rfl, _⟩ := hx.v_inv
    obtain ⟨rfl, _⟩ := hy.v_inv
    simp at e
    rw [run_equalIn_bool' _ _ _ _ _ hu, e]
  · cases e

theorem eqFields_run {P : Program} {xs ys : List AV} {us ws : Array Value} (hx : Rel s (.agg xs) (.agg us)) (hy : Rel s (.agg ys) (.agg ws)) (w : World) (d : Nat) :
    ∀ {fs : List Field} {b : Bool}, eqFields P xs ys fs = some b → (Op.eqFields (d + 1) us ws fs).run P w = .ok b w
  | [], b, e => by
    simp only [eqFields, Option.some.injEq] at e
    subst e
    rfl
  | f :: fs, b, e => by
    have hx' := hx
    have hy' := hy
    cases hx' with
    | agg _ _ hx1 _ hx2 =>
    cases hy' with
    | agg _ _ hy1 _ hy2 =>
    simp only [eqFields] at e
    split at e
    · rename_i x y hn hk hfx hfy
      have hnm : f.name ≠ "_" := by simpa using hn
      have hix : f.offset < us.size := by have := (List.getElem?_eq_some_iff.1 hfx).1; omega
      have hiy : f.offset < ws.size := by have := (List.getElem?_eq_some_iff.1 hfy).1; omega
      have hrx := hx2 f.offset x us[f.offset] hfx (Array.getElem?_eq_getElem hix)
      have hry := hy2 f.offset y ws[f.offset] hfy (Array.getElem?_eq_getElem hiy)
      have hpx : (part f.type us f.offset).run P w = .ok us[f.offset] w := by simp [part, run_isAgg_ok hk, Array.getElem?_eq_getElem hix]
      have hpy : (part f.type ws f.offset).run P w = .ok ws[f.offset] w := by simp [part, run_isAgg_ok hk, Array.getElem?_eq_getElem hiy]
      split at e
      · rename_i b' hb'
        have hq := eqLeaf_run (d := d) hb' hrx hry w
        have hrest : ∀ c, eqFields P xs ys fs = some c → b = (b' && c) → (Op.eqFields (d + 1) us ws (f :: fs)).run P w = .ok b w := by
          intro c hc hb
          have ih := eqFields_run hx hy w d hc
          simp only [Op.eqFields, hnm, ne_eq, not_false_eq_true, if_true, Sem.run_bind, hpx, hpy, Result.andThen_ok, hq, Sem.run_ite, Sem.run_pure, ih, hb]
          cases b' <;> simp
        split at e
        · simp only [Option.some.injEq] at e
          exact hrest true rfl (by simp [e])
        · split at e
          · rename_i c hc
            simp only [Option.some.injEq] at e
            exact hrest c hc e.symm
          · cases e
      · cases e
    · cases e

theorem eqStruct_run {P : Program} {t : TypeId} {xs ys : List AV} {us ws : Array Value} {b : Bool} (e : eqStruct P t xs ys = some b)
    (hx : Rel s (.agg xs) (.agg us)) (hy : Rel s (.agg ys) (.agg ws)) (w : World) (op : BinOp) (x y : Operand) :
    (eqGuard op t x y (.agg us) (.agg ws)).run P w = .ok () w ∧ (Op.equalIn 10000 t (.agg us) (.agg ws)).run P w = .ok b w := by
  unfold eqStruct at e
  split at e
  · rename_i fs hu
    split at e
    · rename_i hb
      simp only [Bool.or_eq_false_iff] at hb
      have hf : P.fieldsOf t = fs := by simp [Program.fieldsOf, hu]
      refine ⟨run_eqGuard_agg _ _ _ _ _ _ _ hb.2, ?_⟩
      rw [show (10000 : Nat) = 9998 + 1 + 1 from rfl, run_equalIn_struct _ _ _ _ _ (by rw [hf]; exact hu) hb.1, hf]
      exact eqFields_run hx hy w 9998 e
    · cases e
  · cases e

/-- No number, text, float, complex: what '==' takes by the type. -/
def NotPlain : Value → Prop
  | .int _ _ | .float _ _ | .complex _ _ _ | .string _ => False
  | _ => True

theorem binOp_eql_of {t : TypeId} {u v : Value} (h : NotPlain u) : binOp .eql t u v = (do pure (.bool (← Op.equal t u v)) : Sem Value) := by
  cases u <;> first | exact h.elim | (cases v <;> rfl)

theorem binOp_neq_of {t : TypeId} {u v : Value} (h : NotPlain u) : binOp .neq t u v = (do pure (.bool (!(← Op.equal t u v))) : Sem Value) := by
  cases u <;> first | exact h.elim | (cases v <;> rfl)

section eqs
variable {P : Program} {t : TypeId} (w : World) (d : Nat)
theorem eqi_slice {e : TypeId} (hu : P.underlying t = some (.slice e)) (a : Option Addr) (n c : Nat) :
    (Op.equalIn (d + 1) t (.slice a n c) (.slice none 0 0)).run P w = .ok a.isNone w ∧ (Op.equalIn (d + 1) t (.slice none 0 0) (.slice a n c)).run P w = .ok a.isNone w := by
  unfold Op.equalIn
  rw [Sem.run_bind, Sem.run_bind, run_underlying hu]
  simp only [Result.andThen_ok]
  cases a <;> exact ⟨rfl, rfl⟩
theorem eqi_func {a r : Array TypeId} {b : Bool} (hu : P.underlying t = some (.func a r b)) (f : Fn) (x y : Array Value) :
    (Op.equalIn (d + 1) t (.func f x y) .nilFunc).run P w = .ok false w ∧ (Op.equalIn (d + 1) t .nilFunc (.func f x y)).run P w = .ok false w := by
  unfold Op.equalIn
  rw [Sem.run_bind, Sem.run_bind, run_underlying hu]
  simp only [Result.andThen_ok]
  exact ⟨rfl, rfl⟩
theorem eqi_func_nil {a r : Array TypeId} {b : Bool} (hu : P.underlying t = some (.func a r b)) :
    (Op.equalIn (d + 1) t .nilFunc .nilFunc).run P w = .ok true w := by
  unfold Op.equalIn
  rw [Sem.run_bind, run_underlying hu]
  simp only [Result.andThen_ok]
  rfl
theorem eqi_ptr {e : TypeId} (hu : P.underlying t = some (.pointer e)) (a : Option Addr) :
    (Op.equalIn (d + 1) t (.pointer a) (.pointer none)).run P w = .ok a.isNone w ∧ (Op.equalIn (d + 1) t (.pointer none) (.pointer a)).run P w = .ok a.isNone w := by
  unfold Op.equalIn
  rw [Sem.run_bind, Sem.run_bind, run_underlying hu]
  simp only [Result.andThen_ok]
  cases a <;> exact ⟨rfl, rfl⟩
theorem eqi_iface {ms : Array (String × TypeId)} (hu : P.underlying t = some (.interface ms)) (u : TypeId) (x : Value) :
    (Op.equalIn (d + 1) t (.iface u x) .nilIface).run P w = .ok false w ∧ (Op.equalIn (d + 1) t .nilIface (.iface u x)).run P w = .ok false w := by
  unfold Op.equalIn
  rw [Sem.run_bind, Sem.run_bind, run_underlying hu]
  simp only [Result.andThen_ok]
  exact ⟨rfl, rfl⟩
theorem eqi_iface_nil {ms : Array (String × TypeId)} (hu : P.underlying t = some (.interface ms)) :
    (Op.equalIn (d + 1) t .nilIface .nilIface).run P w = .ok true w := by
  unfold Op.equalIn
  rw [Sem.run_bind, run_underlying hu]
  simp only [Result.andThen_ok]
  rfl
end eqs

theorem nilEq_run {P : Program} {t : TypeId} {x y : AV} {u v : Value} {b : Bool} (e : nilEq P t x y = some b) (hx : Rel s x u) (hy : Rel s y v) (w : World) :
    (∀ op a c, (eqGuard op t a c u v).run P w = .ok () w ∧ (eqGuard op t a c v u).run P w = .ok () w) ∧
    (∀ d, (Op.equalIn (d + 1) t u v).run P w = .ok b w ∧ (Op.equalIn (d + 1) t v u).run P w = .ok b w) ∧ NotPlain u ∧ NotPlain v := by
  unfold nilEq at e
  split at e
  · rename_i hu
    cases hy with
    | nil =>
    split at e
    · simp only [Option.some.injEq] at e
      subst e
      cases hx with
      | nil => exact ⟨fun op a c => ⟨by rw [eqGuard_at_slice]; rfl, by rw [eqGuard_at_slice]; rfl⟩, fun d => eqi_slice w d hu _ _ _, trivial, trivial⟩
      | empty => exact ⟨fun op a c => ⟨by rw [eqGuard_at_slice]; rfl, by rw [eqGuard_at_slice]; rfl⟩, fun d => eqi_slice w d hu _ _ _, trivial, trivial⟩
      | lst => exact ⟨fun op a c => ⟨by rw [eqGuard_at_slice]; rfl, by rw [eqGuard_at_slice]; rfl⟩, fun d => eqi_slice w d hu _ _ _, trivial, trivial⟩
    · simp only [Option.some.injEq] at e
      subst e
      cases hx with
      | own => exact ⟨fun op a c => ⟨by rw [eqGuard_at_slice]; rfl, by rw [eqGuard_at_slice]; rfl⟩, fun d => eqi_slice w d hu _ _ _, trivial, trivial⟩
      | ownStale => exact ⟨fun op a c => ⟨by rw [eqGuard_at_slice]; rfl, by rw [eqGuard_at_slice]; rfl⟩, fun d => eqi_slice w d hu _ _ _, trivial, trivial⟩
    · cases e
  · rename_i hu
    obtain ⟨rfl, _⟩ := hy.v_inv
    split at e
    · simp only [Option.some.injEq] at e
      subst e
      cases hx
      exact ⟨fun op a c => ⟨by rw [eqGuard_at_func]; rfl, by rw [eqGuard_at_nilFunc]; rfl⟩, fun d => eqi_func w d hu _ _ _, trivial, trivial⟩
    · simp only [Option.some.injEq] at e
      subst e
      obtain ⟨rfl, _⟩ := hx.v_inv
      exact ⟨fun op a c => ⟨by rw [eqGuard_at_nilFunc]; rfl, by rw [eqGuard_at_nilFunc]; rfl⟩, fun d => ⟨eqi_func_nil w d hu, eqi_func_nil w d hu⟩, trivial, trivial⟩
    · cases e
  · rename_i hu
    obtain ⟨rfl, _⟩ := hy.v_inv
    split at e
    · simp only [Option.some.injEq] at e
      subst e
      cases hx with
      | ptr => exact ⟨fun op a c => ⟨by rw [eqGuard_at_pointer]; rfl, by rw [eqGuard_at_pointer]; rfl⟩, fun d => eqi_ptr w d hu _, trivial, trivial⟩
      | ptrStale => exact ⟨fun op a c => ⟨by rw [eqGuard_at_pointer]; rfl, by rw [eqGuard_at_pointer]; rfl⟩, fun d => eqi_ptr w d hu _, trivial, trivial⟩
    · simp only [Option.some.injEq] at e
      subst e
      cases hx
      exact ⟨fun op a c => ⟨by rw [eqGuard_at_pointer]; rfl, by rw [eqGuard_at_pointer]; rfl⟩, fun d => eqi_ptr w d hu _, trivial, trivial⟩
    · simp only [Option.some.injEq] at e
      subst e
      obtain ⟨rfl, _⟩ := hx.v_inv
      exact ⟨fun op a c => ⟨by rw [eqGuard_at_pointer]; rfl, by rw [eqGuard_at_pointer]; rfl⟩, fun d => eqi_ptr w d hu _, trivial, trivial⟩
    · cases e
  · rename_i hu
    obtain ⟨rfl, _⟩ := hy.v_inv
    split at e
    · simp only [Option.some.injEq] at e
      subst e
      cases hx
      exact ⟨fun op a c => ⟨by rw [eqGuard_at_iface]; rfl, by rw [eqGuard_nil_iface]; rfl⟩, fun d => eqi_iface w d hu _ _, trivial, trivial⟩
    · cases e
  · cases e

theorem bothNil_run {P : Program} {t : TypeId} {x y : Operand} {a b : AV} {u v : Value} {r : Bool} (e : bothNil P t x y a b = some r) (ha : Rel s a u) (hb : Rel s b v) (w : World) (op : BinOp) :
    (eqGuard op t x y u v).run P w = .ok () w ∧ (∀ d, (Op.equalIn (d + 1) t u v).run P w = .ok r w) ∧ NotPlain u := by
  unfold bothNil at e
  split at e
  · rename_i hu
    obtain ⟨rfl, _⟩ := ha.v_inv
    obtain ⟨rfl, _⟩ := hb.v_inv
    split at e
    · rename_i hc
      simp only [Option.some.injEq] at e
      subst e
      refine ⟨?_, fun d => eqi_iface_nil w d hu, trivial⟩
      cases x <;> cases y <;> simp [Region.isConst] at hc <;> first | (rw [eqGuard_nil_constR]; rfl) | (rw [eqGuard_nil_constL]; rfl)
    · cases e
  · cases e

theorem eqIface_run {P : Program} {t : TypeId} {x y : Operand} {a b : AV} {u v : Value} {r : Bool} (e : eqIface P t a b = some r) (ha : Rel s a u) (hb : Rel s b v) (w : World) (op : BinOp) :
    (eqGuard op t x y u v).run P w = .ok () w ∧ (∀ d, (Op.equalIn (d + 2) t u v).run P w = .ok r w) ∧ NotPlain u := by
  unfold eqIface at e
  split at e
  · rename_i ms tx k n ty k' m hu
    cases ha with
    | iface _ _ vx hx =>
      cases hb with
      | iface _ _ vy hy =>
        obtain ⟨rfl, _⟩ := hx.v_inv
        obtain ⟨rfl, _⟩ := hy.v_inv
        refine ⟨by rw [eqGuard_at_iface]; rfl, fun d => ?_, trivial⟩
        split at e
        · rename_i hne
          cases e
          have hne := Nat.ne_of_beq_eq_false hne
          unfold Op.equalIn
          rw [Sem.run_bind, run_underlying hu]
          simp [Result.andThen_ok, hne]
        · rename_i heq
          obtain rfl := Nat.eq_of_beq_eq_true heq
          split at e
          · rename_i i hi
            split at e
            · rename_i q hc hut
              obtain ⟨hk, e2⟩ := ite_yes e
              clear e
              subst hk
              simp only [Option.some.injEq] at e2
              subst e2
              rw [show d + 2 = (d + 1) + 1 from rfl]
              unfold Op.equalIn
              rw [Sem.run_bind, run_underlying hu]
              simp only [Result.andThen_ok, ne_eq, not_true_eq_false, if_false, Sem.run_bind, typeInfo, run_program, hi, Sem.run_pure, hc, Bool.not_true, Bool.false_eq_true]
              unfold Op.equalIn
              rw [Sem.run_bind, run_underlying hut]
              simp [Result.andThen_ok]
            · cases e
          · cases e
  · cases e

theorem eqAny_run {P : Program} {t : TypeId} {x y : Operand} {a b : AV} {u v : Value} {r : Bool} (e : eqAny P t x y a b = some r) (ha : Rel s a u) (hb : Rel s b v) (w : World) (op : BinOp) :
    (eqGuard op t x y u v).run P w = .ok () w ∧ (∀ d, (Op.equalIn (d + 2) t u v).run P w = .ok r w) ∧ NotPlain u := by
  unfold eqAny at e
  split at e
  · rename_i r' hr
    simp only [Option.some.injEq] at e
    subst e
    obtain ⟨h1, h2, h3⟩ := bothNil_run (x := x) (y := y) hr ha hb w op
    exact ⟨h1, fun d => h2 (d + 1), h3⟩
  · split at e
    · rename_i r' hr
      simp only [Option.some.injEq] at e
      subst e
      obtain ⟨h1, h2, h3, h4⟩ := nilEq_run hr ha hb w
      exact ⟨(h1 op x y).1, fun d => (h2 (d + 1)).1, h3⟩
    · split at e
      · rename_i r' hr
        simp only [Option.some.injEq] at e
        subst e
        obtain ⟨h1, h2, h3, h4⟩ := nilEq_run hr hb ha w
        exact ⟨(h1 op x y).2, fun d => (h2 (d + 1)).2, h4⟩
      · exact eqIface_run e ha hb w op

/-- A binary operation of two operands' values. -/
theorem catStr_eq (s u : ByteArray) : catStr s u = s ++ u := by
  apply ByteArray.ext
  apply Array.ext'
  simp [catStr, ByteArray.toList_data_append]
theorem bin_run {β : Type} {P : Program} {op : BinOp} {t : TypeId} {x y : Operand} {a b : AV} {va vb : Value} {c : AV → Option β} {r : β}
    (ha : Rel s a va) (hb : Rel s b vb) (e : binK P op t x y a b c = some r) (w : World) :
    ∃ v cv, c v = some r ∧ (do eqGuard op t x y va vb; binOp op t va vb : Sem Value).run P w = .ok cv w ∧ Rel s v cv := by
  unfold binK at e
  split at e
  · -- two numbers
    obtain ⟨rfl, _⟩ := ha.v_inv
    obtain ⟨rfl, _⟩ := hb.v_inv
    simp only [Sem.run_bind, eqGuard_at_int, Sem.run_pure, Result.andThen_ok]
    split at e
    · obtain ⟨h1, e1⟩ := br_no e
      obtain ⟨hk, e2⟩ := ite_yes e1
      subst hk
      refine ⟨_, _, e2, ?_, .v _ rfl⟩
      simp at h1
      simp [binOp_quo, Op.intDiv, h1]
    · obtain ⟨h1, e1⟩ := br_no e
      obtain ⟨hk, e2⟩ := ite_yes e1
      subst hk
      refine ⟨_, _, e2, ?_, .v _ rfl⟩
      simp at h1
      simp [binOp_rem, Op.intDiv, h1]
    · obtain ⟨h1, e1⟩ := br_no e
      refine ⟨_, _, e1, ?_, .v _ rfl⟩
      have h2 : ¬ (_ : Int) < 0 := of_decide_eq_false h1
      rw [binOp_shl, Op.shift, if_neg h2]
      rfl
    · obtain ⟨h1, e1⟩ := br_no e
      refine ⟨_, _, e1, ?_, .v _ rfl⟩
      have h2 : ¬ (_ : Int) < 0 := of_decide_eq_false h1
      rw [binOp_shr, Op.shift, if_neg h2]
      rfl
    iterate 9
      · obtain ⟨hk, e2⟩ := ite_yes e
        subst hk
        refine ⟨_, _, e2, ?_, .v _ rfl⟩
        first | (rw [binOp_add]; rfl) | (rw [binOp_sub]; rfl) | (rw [binOp_mul]; rfl) | (rw [binOp_eql]; rfl) | (rw [binOp_neq]; rfl) | (rw [binOp_lss]; rfl) | (rw [binOp_leq]; rfl) | (rw [binOp_gtr]; rfl) | (rw [binOp_geq]; rfl)
    · split at e
      · rename_i h1
        exact ⟨_, _, e, scal_run h1 w, .v _ rfl⟩
      · cases e
  · -- two texts
    obtain ⟨rfl, _⟩ := ha.v_inv
    obtain ⟨rfl, _⟩ := hb.v_inv
    simp only [Sem.run_bind, eqGuard_at_string, Sem.run_pure, Result.andThen_ok]
    split at e
    · rename_i s1 s2 _ _ _
      obtain ⟨h1, e1⟩ := br_yes e
      refine ⟨_, _, e1, ?_, .v _ rfl⟩
      have h2 : ¬ (((s1.size + s2.size : Nat) : Int) > IntKind.i64.max) := by
        have := Nat.le_of_ble_eq_true h1
        simp only [maxStr] at this
        simp only [IntKind.max_i64]
        omega
      simp only [binOp, Op.stringOp]
      rw [if_neg h2]
      rfl
    iterate 6
      · refine ⟨_, _, e, ?_, .v _ rfl⟩
        simp [binOp, Op.stringOp, strEq_eq, strLt_eq]
    · cases e
  · -- two Bools
    obtain ⟨rfl, _⟩ := ha.v_inv
    obtain ⟨rfl, _⟩ := hb.v_inv
    simp only [Sem.run_bind, eqGuard_at_bool, Sem.run_pure, Result.andThen_ok]
    split at e
    · rename_i hu
      refine ⟨_, _, e, ?_, .v _ rfl⟩
      rw [binOp_eql_of (show NotPlain (Value.bool _) from trivial)]
      simp only [Op.equal, Op.maxDepth, Sem.run_bind]
      rw [show (10000 : Nat) = 9999 + 1 from rfl, run_equalIn_bool' _ _ _ _ _ hu]
      rfl
    · rename_i hu
      refine ⟨_, _, e, ?_, .v _ rfl⟩
      rw [binOp_neq_of (show NotPlain (Value.bool _) from trivial)]
      simp only [Op.equal, Op.maxDepth, Sem.run_bind]
      rw [show (10000 : Nat) = 9999 + 1 from rfl, run_equalIn_bool' _ _ _ _ _ hu]
      rfl
    · cases e
  · -- two aggregates
    obtain ⟨us, rfl, _⟩ := Cells.of_agg ha
    obtain ⟨ws, rfl, _⟩ := Cells.of_agg hb
    split at e
    · split at e
      · rename_i b' hb'
        obtain ⟨h1, h2⟩ := eqStruct_run hb' ha hb w .eql x y
        refine ⟨_, _, e, ?_, .v _ rfl⟩
        simp only [Sem.run_bind, h1, Result.andThen_ok, run_eql_struct, h2]
      · cases e
    · split at e
      · rename_i b' hb'
        obtain ⟨h1, h2⟩ := eqStruct_run hb' ha hb w .neq x y
        refine ⟨_, _, e, ?_, .v _ rfl⟩
        simp only [Sem.run_bind, h1, Result.andThen_ok, run_neq_struct, h2]
      · cases e
    · cases e
  · split at e
    · split at e
      · rename_i r' hr'
        obtain ⟨h1, h2, h3⟩ := eqAny_run hr' ha hb w .eql
        refine ⟨_, _, e, ?_, .v _ rfl⟩
        simp only [Sem.run_bind, h1, Result.andThen_ok]
        rw [binOp_eql_of h3]
        simp only [Op.equal, Op.maxDepth, Sem.run_bind]
        rw [show (10000 : Nat) = 9998 + 2 from rfl, h2 9998]
        rfl
      · cases e
    · split at e
      · rename_i r' hr'
        obtain ⟨h1, h2, h3⟩ := eqAny_run hr' ha hb w .neq
        refine ⟨_, _, e, ?_, .v _ rfl⟩
        simp only [Sem.run_bind, h1, Result.andThen_ok]
        rw [binOp_neq_of h3]
        simp only [Op.equal, Op.maxDepth, Sem.run_bind]
        rw [show (10000 : Nat) = 9998 + 2 from rfl, h2 9998]
        rfl
      · cases e
    · cases e

theorem sound_binOp {op : BinOp} {t : TypeId} {x y : Operand} {yt : TypeId} (hop : o.op = .binOp op t x y yt) (hok : Ok X s) (hρ : ∀ x, Rel s (ρ x) (av x))
    (e : opK X g o ρ s.H (fun v h t => some (v, h, t)) = some (v, h', tg)) : Done X s ((execOp av o).run X.P s.w) v h' := by
  simp only [opK, hop] at e
  obtain ⟨r, cv, e, hrun, hrel⟩ := bin_run (hρ x) (hρ y) (ifcK_some (ifcK_some e)) s.w
  simp only [Option.some.injEq, Prod.mk.injEq] at e
  obtain ⟨rfl, rfl, rfl⟩ := e
  refine Done.pure hok ?_ hrel
  simp only [execOp, hop]
  rw [Sem.run_bind, hrun]
  rfl

theorem sound_unOp {op : UnOp} {t : TypeId} {x : Operand} (hop : o.op = .unOp op t x) (hok : Ok X s) (hρ : ∀ x, Rel s (ρ x) (av x))
    (e : opK X g o ρ s.H (fun v h t => some (v, h, t)) = some (v, h', tg)) : Done X s ((execOp av o).run X.P s.w) v h' := by
  have hx := hρ x
  simp only [opK, hop] at e
  split at e
  · rename_i b hpx
    rw [hpx] at hx
    obtain ⟨hv, _⟩ := hx.v_inv
    simp only [Option.some.injEq, Prod.mk.injEq] at e
    obtain ⟨rfl, rfl, rfl⟩ := e
    exact Done.pure hok (by simp only [execOp, hop, hv]; rfl) (.v _ rfl)
  · rename_i k n hpx
    rw [hpx] at hx
    obtain ⟨hv, _⟩ := hx.v_inv
    simp only [Option.some.injEq, Prod.mk.injEq] at e
    obtain ⟨rfl, rfl, rfl⟩ := e
    exact Done.pure hok (by simp only [execOp, hop, hv]; rfl) (.v _ rfl)
  · rename_i k n hpx
    rw [hpx] at hx
    obtain ⟨hv, _⟩ := hx.v_inv
    split at e
    · rename_i k' r hr
      simp only [Option.some.injEq, Prod.mk.injEq] at e
      obtain ⟨rfl, rfl, rfl⟩ := e
      refine Done.pure hok ?_ (.v _ rfl)
      simp only [execOp, hop, hv]
      rw [Sem.run_bind, scal_run hr]
      rfl
    · cases e
  · cases e

theorem fresh_priv (hok : Ok X s) : ¬ s.Priv s.w.heap.size := by
  rintro (⟨i, o, ho, hl, hb⟩ | h)
  · have := (hok.obj i o ho hl).lt; omega
  · have := hok.maskLt _ h; omega

/-- A new block that nobody owns: what it is worth. -/
theorem push_lst (hok : Ok X s) {es : Nat} {rows : List AV} {cur : Array Value} {ty : TypeId} {fr : Nat × Nat} {w' : World} (hw : w'.heap = s.w.heap.push (.cells cur ty fr))
    (hes : ∀ r ∈ rows, r.cells.length = es) (hcell : ∀ r ∈ rows, ∀ c ∈ r.cells, isCell c = true) (hfree : ∀ r ∈ rows, refFree r = true) {cap : Nat} (hcap : rows.length ≤ cap)
    (hr : ∀ (r c : Nat) (x y : AV), rows[r]? = some x → x.cells[c]? = some y → ∃ v, cur[r * es + c]? = some v ∧ Rel s y v) (hio : SameIo s.w w' := by exact ⟨rfl, rfl⟩) :
    ∃ s' : St, s'.w = w' ∧ s'.H = s.H ∧ Step s s' ∧ Ok X s' ∧ Rel s' (.lst es false rows) (.slice (some ⟨s.w.heap.size, 0, none⟩) rows.length cap) := by
  obtain ⟨hst, hok'⟩ := push hok (.cells cur ty fr) hw hio
  refine ⟨{ s with w := w' }, rfl, rfl, hst, hok', ?_⟩
  have hb : w'.heap[s.w.heap.size]? = some (.cells cur ty fr) := by rw [hw]; simp
  refine .lst es rows s.w.heap.size 0 cap (fun i j => cur[i * es + j]?.getD undef) hcap (fun _ => ⟨by simp [hw], ?_⟩) hes hfree hcell ?_ ?_
  · have := fresh_priv hok
    exact this
  · intro i j hi hj
    have hx : rows[i]? = some rows[i] := List.getElem?_eq_getElem hi
    have hlen := hes rows[i] (List.getElem_mem hi)
    obtain ⟨v, hv, _⟩ := hr i j rows[i] (rows[i].cells[j]'(by omega)) hx (List.getElem?_eq_getElem (by omega))
    simp [World.cell?, ad, hb, hv]
  · intro i j x y hx hy
    obtain ⟨v, hv, hrel⟩ := hr i j x y hx hy
    simp only [hv, Option.getD_some]
    exact hrel.mono hst

theorem mem_bytesRows {t : ByteArray} {r : AV} (h : r ∈ bytesRows t) : ∃ b : UInt8, r = .v (.int .u8 b.toNat) := by
  unfold bytesRows at h
  obtain ⟨b, _, rfl⟩ := List.mem_map.1 h
  exact ⟨b, rfl⟩

theorem rowsBytes_some : ∀ {rows : List AV} {l : List UInt8}, rowsBytes rows = some l → ∃ ns : List Int, rows = ns.map (fun n => .v (.int .u8 n)) ∧ l = ns.map fun n => UInt8.ofNat n.toNat
  | [], l, h => ⟨[], rfl, by simpa [rowsBytes] using h.symm⟩
  | r :: rows, l, h => by
    simp only [rowsBytes, List.mapM_cons, bind, Option.bind_eq_some_iff] at h
    obtain ⟨b, hb, l', hl', h⟩ := h
    obtain ⟨ns, hns, hl⟩ := rowsBytes_some (rows := rows) (l := l') hl'
    unfold rowByte at hb
    split at hb
    · rename_i n
      simp only [Option.some.injEq] at hb
      simp only [Pure.pure, Option.some.injEq] at h
      exact ⟨n :: ns, by simp [hns], by rw [← h, ← hb, hl]; rfl⟩
    · cases hb

theorem foldl_push : ∀ (ns : List Int) (t : ByteArray), ns.foldl (fun r n => r.push (UInt8.ofNat n.toNat)) t = ⟨(t.data.toList ++ ns.map fun n => UInt8.ofNat n.toNat).toArray⟩
  | [], t => by simp
  | n :: ns, t => by
    rw [List.foldl_cons, foldl_push ns]
    simp [ByteArray.push]

/-- A slice's rows in memory. -/
theorem rowsK_slice {β : Type} {x : AV} {es : Nat} {c : List AV → Option β} {r : β} {cv : Value} (hok : Ok X s) (e : rowsK s.H x es c = some r) (hx : Rel s x cv) (hns : ∀ t, x ≠ .v (.string t)) :
    ∃ rows, c rows = some r ∧ (∀ r ∈ rows, r.cells.length = es) ∧ (∀ r ∈ rows, ∀ c ∈ r.cells, isCell c = true) ∧ (∀ r ∈ rows, refFree r = true) ∧
      ((rows = [] ∧ cv = .slice none 0 0) ∨ (rows = [] ∧ ∃ a cap, cv = .slice (some a) 0 cap) ∨ ∃ b off cap, cv = .slice (some (ad b off)) rows.length cap ∧
        ∀ i j x y, rows[i]? = some x → x.cells[j]? = some y → ∃ u, s.w.cell? (ad b (off + i * es + j)) = some u ∧ Rel s y u) := by
  unfold rowsK at e
  split at e
  · split at e
    · rename_i es' rows nl hb
      obtain rfl := Nat.eq_of_beq_eq_true hb
      cases hx with
      | nil => exact ⟨[], e, by simp, by simp, by simp, .inl ⟨rfl, rfl⟩⟩
      | empty es a cap => exact ⟨[], e, by simp, by simp, by simp, .inr (.inl ⟨rfl, a, cap, rfl⟩)⟩
      | lst es rows b off cap vals hcap hpriv hes hfree hcell hc hr =>
        refine ⟨rows, e, hes, hcell, hfree, .inr (.inr ⟨b, off, cap, rfl, fun i j x y hx hy => ⟨vals i j, hc i j (List.getElem?_eq_some_iff.1 hx).1 ?_, hr i j x y hx hy⟩⟩)⟩
        have h1 := hes x (List.mem_of_getElem? hx)
        have h2 := (List.getElem?_eq_some_iff.1 hy).1
        omega
    · cases e
  · rename_i id gen row len
    obtain ⟨ob, hob, hl, hg, e1⟩ := objK_some e
    obtain ⟨hbe, e2⟩ := br_yes e1
    simp only [Bool.and_eq_true, Bool.not_eq_true'] at hbe
    obtain ⟨hbox, hes⟩ := hbe
    have hes := Nat.eq_of_beq_eq_true hes
    have hobok := hok.obj id ob hob hl
    clear e e1
    cases hx with
    | own i g row len o cur ty off cap ho hl' hg' hbox' hn hcap fr hfr hb hoff =>
      rw [ho] at hob
      obtain rfl := Option.some.inj hob
      obtain ⟨cur', ty', fr2, hfr2, hb', hsz, hc2, hcells⟩ := hobok.block (hobok.plain hbox')
      rw [hb] at hb'
      simp only [Option.some.injEq, Go.Obj.cells.injEq] at hb'
      obtain ⟨rfl, rfl, _⟩ := hb'
      have hsub : ∀ (i : Nat) (x : AV), (subRows o.rows row len)[i]? = some x → i < lenOfOwn o row len ∧ o.rows[row + i]? = some x := by
        intro i x hx
        unfold subRows at hx
        unfold lenOfOwn at hn ⊢
        cases len with
        | none =>
          cases row with
          | zero => simp only [Nat.zero_add]; exact ⟨(List.getElem?_eq_some_iff.1 hx).1, hx⟩
          | succ r =>
            simp only [List.getElem?_drop] at hx
            have := (List.getElem?_eq_some_iff.1 hx).1
            exact ⟨by simp only []; omega, hx⟩
        | some n =>
          cases row with
          | zero =>
            simp only [List.getElem?_take] at hx
            split at hx
            · simp only [Nat.zero_add]; exact ⟨‹_›, hx⟩
            · cases hx
          | succ r =>
            simp only [List.getElem?_take, List.getElem?_drop] at hx
            split at hx
            · exact ⟨‹_›, hx⟩
            · cases hx
      have hlen : (subRows o.rows row len).length = lenOfOwn o row len := by
        unfold subRows
        unfold lenOfOwn at hn ⊢
        cases len with
        | none => cases row <;> simp
        | some n => cases row <;> simp at hn ⊢ <;> omega
      refine ⟨_, e2, ?_, ?_, ?_, .inr (.inr ⟨s.loc id, off, cap, by rw [hlen], fun i j x y hx hy => ?_⟩)⟩
      · intro r hr
        obtain ⟨i, hi⟩ := List.getElem?_of_mem hr
        rw [← hes]
        exact hobok.es r (List.mem_of_getElem? (hsub i r hi).2)
      · intro r hr
        obtain ⟨i, hi⟩ := List.getElem?_of_mem hr
        exact hobok.cell r (List.mem_of_getElem? (hsub i r hi).2)
      · intro r hr
        obtain ⟨i, hi⟩ := List.getElem?_of_mem hr
        exact hobok.free hbox' r (List.mem_of_getElem? (hsub i r hi).2)
      · obtain ⟨h1, h2⟩ := hsub i x hx
        have hcne : cap ≠ 0 := by omega
        obtain ⟨ho1, ho2⟩ := hoff hcne
        obtain ⟨u, hu, hrel⟩ := hcells (row + i) j x y h2 hy
        refine ⟨u, ?_, hrel⟩
        have : off + i * es + j = (row + i) * o.es + j := by rw [ho1, ← hes, Nat.add_mul]
        simp only [World.cell?, ad, hb, this]
        exact hu
    | ownStale i g row len o a n cap ho hs =>
      rw [ho] at hob
      obtain rfl := Option.some.inj hob
      rcases hs with hs | hs
      · rw [hl] at hs; cases hs
      · omega
  · rename_i t
    exact absurd rfl (hns t)
  · cases e

end
end Go.Ab
