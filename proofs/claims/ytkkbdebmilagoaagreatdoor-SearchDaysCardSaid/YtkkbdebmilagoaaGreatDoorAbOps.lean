/- Each operation of the abstract machine is the model's. -/
import Derived.Test.YtkkbdebmilagoaaGreatDoorAbInv
import Derived.Laws.Append
set_option linter.unusedSimpArgs false
set_option linter.unusedVariables false
namespace Go.Ab
open Go

/-- What an operation comes to in the model, against the abstract machine. -/
def Done (X : Ctx) (s : St) (run : Result Next) (v : AV) (h' : Heap) : Prop :=
  ∃ nx cv s', run = .ok nx s'.w ∧ (nx = .value cv ∨ (nx = .skip ∧ cv = undef)) ∧ s'.H = h' ∧ Step s s' ∧ Ok X s' ∧ Rel s' v cv

theorem Done.pure {X : Ctx} {s : St} (hok : Ok X s) {run : Result Next} {v : AV} {cv : Value} (h : run = .ok (.value cv) s.w) (hr : Rel s v cv) : Done X s run v s.H :=
  ⟨_, cv, s, h, .inl rfl, rfl, .refl s, hok, hr⟩

theorem ad_add (b off n : Nat) : (ad b off).add n = ad b (off + n) := Addr.add_lit b off n

section
variable {P : Program}

theorem underlying_info {t : TypeId} {d : TypeDesc} (h : P.underlying t = some d) : ∃ i, P.info? t = some i := by
  unfold Program.underlying at h
  split at h
  · exact ⟨_, ‹_›⟩
  · exact ⟨_, ‹_›⟩
  · cases h

theorem kind_underlying {t : TypeId} {b : Bool} (h : kindT P t = some b) : ∃ d, P.underlying t = some d := by
  unfold kindT at h
  split at h <;> first | exact ⟨_, ‹_›⟩ | cases h

theorem run_sizeOf_ok {t : TypeId} {d : TypeDesc} (h : P.underlying t = some d) (w : World) : (sizeOf t).run P w = .ok (P.cellsOf t) w := by
  obtain ⟨i, hi⟩ := underlying_info h
  simp [sizeOf, typeInfo, hi, Program.cellsOf]

theorem run_isAgg_ok {t : TypeId} {b : Bool} (h : kindT P t = some b) (w : World) : (isAgg t).run P w = .ok b w := by
  obtain ⟨d, hd⟩ := kind_underlying h
  simp only [isAgg, Sem.run_bind, run_underlying hd, Result.andThen_ok]
  unfold kindT at h
  rw [hd] at h
  cases d <;> simp_all

theorem elemT_some {t e : TypeId} (h : elemT P t = some e) : P.underlying t = some (.slice e) := by
  unfold elemT at h
  split at h
  · rename_i e' he
    rw [he]; simp at h; rw [h]
  · cases h

theorem fieldOf_some {t : TypeId} {i : Nat} {fd : Field} (h : fieldOf P t i = some fd) : ∃ fs, P.underlying t = some (.struct fs) ∧ fs[i]? = some fd := by
  unfold fieldOf at h
  split at h
  · rename_i fs hfs
    exact ⟨fs, hfs, h⟩
  · cases h
end

section
variable {X : Ctx} {s : St}

theorem run_load_cell {P : Program} {w : World} {a : Addr} {v : Value} (h : w.cell? a = some v) : (load a).run P w = .ok v w := by
  rw [run_load, h]

/-- A part of a row in memory, loaded. -/
theorem sub_load {β : Type} {P : Program} {t : TypeId} {row : AV} {off : Nat} {c : AV → Option β} {r : β} (e : subvalK P t row off c = some r)
    {b base : Nat} {vals : Nat → Value} (hcell : ∀ x ∈ row.cells, isCell x = true)
    (hc : ∀ j, j < row.cells.length → s.w.cell? (ad b (base + j)) = some (vals j))
    (hr : ∀ (j : Nat) (y : AV), row.cells[j]? = some y → Rel s y (vals j)) :
    ∃ x cv, c x = some r ∧ (loadVar t (ad b (base + off))).run P s.w = .ok cv s.w ∧ Rel s x cv := by
  unfold subvalK at e
  split at e
  · rename_i hk
    obtain ⟨h1, e⟩ := br_yes e
    have hle : off + P.cellsOf t ≤ row.cells.length := by simpa using h1
    obtain ⟨d, hd⟩ := kind_underlying hk
    refine ⟨_, .agg ((List.range (P.cellsOf t)).map fun j => vals (off + j)).toArray, e, ?_, ?_⟩
    · simp only [loadVar, Sem.run_bind, run_isAgg_ok hk, Result.andThen_ok, if_true, run_sizeOf_ok hd]
      rw [run_loadCells s.w (ad b (base + off)) (P.cellsOf t) (fun j => vals (off + j)) (fun j hj => by
        rw [ad_add, Nat.add_assoc]; exact hc (off + j) (by omega))]
      rfl
    · refine .agg _ _ (by simp; omega) ?_ ?_
      · intro x hx
        exact hcell x (List.mem_of_mem_drop (List.mem_of_mem_take hx))
      · intro j x y hx hy
        simp only [List.getElem?_take] at hx
        split at hx
        · rename_i hj
          simp only [List.getElem?_drop] at hx
          simp [hj] at hy
          rw [← hy]
          exact hr _ _ hx
        · cases hx
  · rename_i hk
    split at e
    · rename_i x hx
      obtain ⟨h1, e⟩ := br_yes (leafK_some e)
      have hlt : off < row.cells.length := (List.getElem?_eq_some_iff.1 hx).1
      refine ⟨x, vals off, e, ?_, hr off x hx⟩
      simp only [loadVar, Sem.run_bind, run_isAgg_ok hk, Result.andThen_ok]
      exact run_load_cell (hc off hlt)
    · cases e
  · cases e

/-- A part of a value. -/
theorem sub_part {β : Type} {P : Program} {t : TypeId} {cs : List AV} {vs : Array Value} {off : Nat} {c : AV → Option β} {r : β} (e : subvalK P t (.agg cs) off c = some r)
    (h : Rel s (.agg cs) (.agg vs)) (w : World) : ∃ x cv, c x = some r ∧ (part t vs off).run P w = .ok cv w ∧ Rel s x cv := by
  cases h with
  | agg cs vs h1 hcell h =>
  unfold subvalK at e
  split at e
  · rename_i hk
    obtain ⟨h2, e⟩ := br_yes e
    have hle : off + P.cellsOf t ≤ cs.length := by simpa [AV.cells] using h2
    obtain ⟨d, hd⟩ := kind_underlying hk
    refine ⟨_, .agg (vs.extract off (off + P.cellsOf t)), e, ?_, ?_⟩
    · simp only [part, Sem.run_bind, run_isAgg_ok hk, Result.andThen_ok, if_true, run_sizeOf_ok hd]
      rfl
    · refine .agg _ _ (by simp [AV.cells]; omega) ?_ ?_
      · intro x hx
        exact hcell x (List.mem_of_mem_drop (List.mem_of_mem_take hx))
      · intro j x y hx hy
        simp only [List.getElem?_take, AV.cells] at hx
        split at hx
        · rename_i hj
          simp only [List.getElem?_drop] at hx
          refine h (off + j) x y hx ?_
          rw [Array.getElem?_extract] at hy
          split at hy
          · exact hy
          · cases hy
        · cases hx
  · rename_i hk
    split at e
    · rename_i x hx
      obtain ⟨_, e⟩ := br_yes (leafK_some e)
      simp only [AV.cells] at hx
      have hlt : off < cs.length := (List.getElem?_eq_some_iff.1 hx).1
      have hlt' : off < vs.size := by omega
      refine ⟨x, vs[off], e, ?_, h off x vs[off] hx (Array.getElem?_eq_getElem hlt')⟩
      simp [part, run_isAgg_ok hk, Array.getElem?_eq_getElem hlt']
    · cases e
  · cases e

variable {g : FuncId} {o : Oper} {ρ : Operand → AV} {av : Operand → Value} {v : AV} {h' : Heap} {tg : Tag}

theorem sound_load {t : TypeId} {a : Operand} (hop : o.op = .load t a) (hok : Ok X s) (hρ : ∀ x, Rel s (ρ x) (av x))
    (e : opK X g o ρ s.H (fun v h t => some (v, h, t)) = some (v, h', tg)) : Done X s ((execOp av o).run X.P s.w) v h' := by
  have ha := hρ a
  simp only [opK, hop] at e
  simp only [execOp, hop, Instr.loadAt, Sem.run_bind]
  split at e
  · rename_i id gen r off hpa
    rw [hpa] at ha
    obtain ⟨ob, hob, hl, hg, e1⟩ := objK_some e
    obtain ⟨row, hrow, e2⟩ := rowK_some e1
    have hit := objK_it e hob
    clear e e1
    have hobok := hok.obj id ob hob hl
    generalize av a = va at ha
    cases ha with
    | ptr i g row' off' o' ho' hl' hg' hrow' =>
      rw [ho'] at hob
      obtain rfl := Option.some.inj hob
      obtain ⟨cur, ty, fr, hfr, hb, hsz, hcap, hcells⟩ := hobok.block hit
      have hmem : row ∈ o'.rows := List.mem_of_getElem? hrow
      have hlen := hobok.es row hmem
      obtain ⟨x, cv, e, hrun, hrel⟩ := sub_load (s := s) e2 (b := s.loc id) (base := r * o'.es) (vals := fun j => cur[r * o'.es + j]?.getD undef) (hobok.cell row hmem)
        (fun j hj => by
          obtain ⟨v, hv, hrv⟩ := hcells r j row row.cells[j] hrow (List.getElem?_eq_getElem hj)
          simp [World.cell?, ad, hb, hv])
        (fun j y hy => by
          obtain ⟨v, hv, hrv⟩ := hcells r j row y hrow hy
          simpa [hv] using hrv)
      simp only [Option.some.injEq, Prod.mk.injEq] at e
      obtain ⟨rfl, rfl, rfl⟩ := e
      exact Done.pure hok (by simp only [Instr.sureAddr, Sem.run_pure, Result.andThen_ok, hrun]) hrel
    | ptrStale i g row' off' o' a ho' hs =>
      rw [ho'] at hob
      obtain rfl := Option.some.inj hob
      rcases hs with hs | hs
      · rw [hl] at hs; cases hs
      · omega
  · rename_i row off hpa
    rw [hpa] at ha
    generalize av a = va at ha
    cases ha with
    | pl row off b base vals hsz hpriv hfree hcell hc hr =>
      obtain ⟨x, cv, e, hrun, hrel⟩ := sub_load (s := s) e hcell hc hr
      simp only [Option.some.injEq, Prod.mk.injEq] at e
      obtain ⟨rfl, rfl, rfl⟩ := e
      exact Done.pure hok (by simp only [Instr.sureAddr, Sem.run_pure, Result.andThen_ok, hrun]) hrel
  · cases e

theorem done_some {s' : St} (a : Option (AV × Heap × Tag)) : a = a := rfl

theorem sound_move {x : Operand} (hop : o.op = .move x ∨ o.op = .assign x) (hok : Ok X s) (hρ : ∀ x, Rel s (ρ x) (av x))
    (e : opK X g o ρ s.H (fun v h t => some (v, h, t)) = some (v, h', tg)) : Done X s ((execOp av o).run X.P s.w) v h' := by
  rcases hop with hop | hop <;>
  · simp only [opK, hop, Option.some.injEq, Prod.mk.injEq] at e
    obtain ⟨rfl, rfl, rfl⟩ := e
    exact Done.pure hok (by simp only [execOp, hop]; rfl) (normT_rel (hρ x))

theorem sound_pick {b x y : Operand} (hop : o.op = .pick b x y) (hok : Ok X s) (hρ : ∀ x, Rel s (ρ x) (av x))
    (e : opK X g o ρ s.H (fun v h t => some (v, h, t)) = some (v, h', tg)) : Done X s ((execOp av o).run X.P s.w) v h' := by
  have hb := hρ b
  simp only [opK, hop] at e
  split at e
  · rename_i t hpb
    rw [hpb] at hb
    obtain ⟨hbv, _⟩ := hb.v_inv
    rcases br_some e with ⟨rfl, e1⟩ | ⟨rfl, e1⟩ <;>
    · simp only [Option.some.injEq, Prod.mk.injEq] at e1
      obtain ⟨rfl, rfl, rfl⟩ := e1
      refine Done.pure hok (cv := ?_) (by simp only [execOp, hop, hbv, asBool, Sem.run_bind, Sem.run_pure, Result.andThen_ok]; rfl) ?_
      first | exact normT_rel (hρ x) | exact normT_rel (hρ y)
  · cases e

theorem sound_nilCheck {x : Operand} (hop : o.op = .nilCheck x) (hok : Ok X s) (hρ : ∀ x, Rel s (ρ x) (av x))
    (e : opK X g o ρ s.H (fun v h t => some (v, h, t)) = some (v, h', tg)) : Done X s ((execOp av o).run X.P s.w) v h' := by
  have hx := hρ x
  simp only [opK, hop] at e
  split at e
  all_goals first | cases e | skip
  all_goals
    rename_i hpx
    rw [hpx] at hx
    refine Done.pure hok ?_ hx
    simp only [execOp, hop]
    generalize av x = vx at hx
    cases hx <;> rfl

theorem sound_fieldAddr {t : TypeId} {x : Operand} {i : Nat} (hop : o.op = .fieldAddr t x i) (hok : Ok X s) (hρ : ∀ x, Rel s (ρ x) (av x))
    (e : opK X g o ρ s.H (fun v h t => some (v, h, t)) = some (v, h', tg)) : Done X s ((execOp av o).run X.P s.w) v h' := by
  have hx := hρ x
  simp only [opK, hop] at e
  split at e
  · rename_i fd hfd
    obtain ⟨fs, hu, hf⟩ := fieldOf_some hfd
    split at e
    · rename_i id g r off hz hpx
      simp only [Option.some.injEq, Prod.mk.injEq] at e
      obtain ⟨rfl, rfl, rfl⟩ := e
      rw [hpx] at hx
      have hz' : X.P.cellsOf fd.type ≠ 0 := fun h => by rw [h] at hz; cases hz
      have hsz : ∀ w, (sizeOf fd.type).run X.P w = .ok (X.P.cellsOf fd.type) w := fun w => by
        unfold Program.cellsOf at hz' ⊢
        cases hi : X.P.info? fd.type with
        | none => simp [hi] at hz'
        | some i => simp [sizeOf, typeInfo, hi]
      generalize hvx : av x = vx at hx
      cases hx with
      | ptr i g row off' o' ho hl hg hrow =>
        refine Done.pure hok (cv := .pointer (some (ad (s.loc id) (r * o'.es + (off + fd.offset))))) ?_ (.ptr id g r _ o' ho hl hg hrow)
        simp only [execOp, hop, hvx, Instr.fieldAt, Sem.run_bind, run_underlying hu, Result.andThen_ok, hf, Instr.sureAddr, Sem.run_pure, fieldPlace, hsz, hz', if_false, ad_add, Nat.add_assoc]
      | ptrStale i g row off' o' a ho hs =>
        refine Done.pure hok (cv := .pointer (some (a.add fd.offset))) ?_ (.ptrStale id g r _ o' _ ho hs)
        simp only [execOp, hop, hvx, Instr.fieldAt, Sem.run_bind, run_underlying hu, Result.andThen_ok, hf, Instr.sureAddr, Sem.run_pure, fieldPlace, hsz, hz', if_false]
    · rename_i row off hz hpx
      simp only [Option.some.injEq, Prod.mk.injEq] at e
      obtain ⟨rfl, rfl, rfl⟩ := e
      rw [hpx] at hx
      have hz' : X.P.cellsOf fd.type ≠ 0 := fun h => by rw [h] at hz; cases hz
      have hsz : ∀ w, (sizeOf fd.type).run X.P w = .ok (X.P.cellsOf fd.type) w := fun w => by
        unfold Program.cellsOf at hz' ⊢
        cases hi : X.P.info? fd.type with
        | none => simp [hi] at hz'
        | some i => simp [sizeOf, typeInfo, hi]
      generalize hvx : av x = vx at hx
      cases hx with
      | pl row off' b base vals hs hpriv hfree hcell hc hr =>
        refine Done.pure hok (cv := .pointer (some (ad b (base + (off + fd.offset))))) ?_ (.pl row _ b base vals hs hpriv hfree hcell hc hr)
        simp only [execOp, hop, hvx, Instr.fieldAt, Sem.run_bind, run_underlying hu, Result.andThen_ok, hf, Instr.sureAddr, Sem.run_pure, fieldPlace, hsz, hz', if_false, ad_add, Nat.add_assoc]
    · cases e
  · cases e

theorem sound_field {t : TypeId} {x : Operand} {i : Nat} (hop : o.op = .field t x i) (hok : Ok X s) (hρ : ∀ x, Rel s (ρ x) (av x))
    (e : opK X g o ρ s.H (fun v h t => some (v, h, t)) = some (v, h', tg)) : Done X s ((execOp av o).run X.P s.w) v h' := by
  have hx := hρ x
  simp only [opK, hop] at e
  split at e
  · rename_i fd cs hfd hpx
    obtain ⟨fs, hu, hf⟩ := fieldOf_some hfd
    rw [hpx] at hx
    obtain ⟨vs, hv, _⟩ := Cells.of_agg hx
    rw [hv] at hx
    obtain ⟨y, cv, e, hrun, hrel⟩ := sub_part e hx s.w
    simp only [Option.some.injEq, Prod.mk.injEq] at e
    obtain ⟨rfl, rfl, rfl⟩ := e
    refine Done.pure hok ?_ hrel
    simp only [execOp, hop, hv, Instr.field, Sem.run_bind, run_underlying hu, Result.andThen_ok, hf, Go.asAgg, Sem.run_pure, hrun]
  · cases e

theorem sound_extract {t : Operand} {i : Nat} (hop : o.op = .extract t i) (hok : Ok X s) (hρ : ∀ x, Rel s (ρ x) (av x))
    (e : opK X g o ρ s.H (fun v h t => some (v, h, t)) = some (v, h', tg)) : Done X s ((execOp av o).run X.P s.w) v h' := by
  have hx := hρ t
  simp only [opK, hop] at e
  split at e
  · rename_i xs hpx
    rw [hpx] at hx
    split at e
    · rename_i y hy
      simp only [Option.some.injEq, Prod.mk.injEq] at e
      obtain ⟨rfl, rfl, rfl⟩ := e
      generalize hvx : av t = vx at hx
      cases hx with
      | tup cs vs h1 h =>
        have hi : i < vs.size := by have := (List.getElem?_eq_some_iff.1 hy).1; omega
        refine Done.pure hok ?_ (h i y vs[i] hy (Array.getElem?_eq_getElem hi))
        simp [execOp, hop, hvx, Instr.extract, Array.getElem?_eq_getElem hi]
    · cases e
  · cases e

theorem sound_makeFunc {fn : Fn} {first cap : Array Operand} (hop : o.op = .makeFunc fn first cap) (hok : Ok X s) (hρ : ∀ x, Rel s (ρ x) (av x))
    (e : opK X g o ρ s.H (fun v h t => some (v, h, t)) = some (v, h', tg)) : Done X s ((execOp av o).run X.P s.w) v h' := by
  simp only [opK, hop, Option.some.injEq, Prod.mk.injEq] at e
  obtain ⟨rfl, rfl, rfl⟩ := e
  refine Done.pure hok (cv := .func fn (first.map av) (cap.map av)) (by simp only [execOp, hop, Instr.makeFunc]; rfl) ?_
  refine .fn fn _ _ _ _ (by simp) (by simp) ?_ ?_ <;>
  · intro j x y hx hy
    simp only [List.getElem?_map, Option.map_eq_some_iff, Array.getElem?_map, Array.getElem?_toList] at hx hy
    obtain ⟨a, ha, rfl⟩ := hx
    obtain ⟨b, hb, rfl⟩ := hy
    rw [ha] at hb
    obtain rfl := Option.some.inj hb
    exact hρ a

theorem sound_makeInterface {t : TypeId} {x : Operand} (hop : o.op = .makeInterface t x) (hok : Ok X s) (hρ : ∀ x, Rel s (ρ x) (av x))
    (e : opK X g o ρ s.H (fun v h t => some (v, h, t)) = some (v, h', tg)) : Done X s ((execOp av o).run X.P s.w) v h' := by
  simp only [opK, hop] at e
  split at e
  · cases e
  · rename_i d hni hu
    simp only [Option.some.injEq, Prod.mk.injEq] at e
    obtain ⟨rfl, rfl, rfl⟩ := e
    refine Done.pure hok (cv := .iface t (av x)) ?_ (.iface t _ _ (normT_rel (hρ x)))
    simp only [execOp, hop, Instr.makeInterface, Sem.run_bind, run_underlying hu, Result.andThen_ok]
    cases d <;> first | rfl | exact absurd hu (hni _)
  · cases e
end
end Go.Ab
