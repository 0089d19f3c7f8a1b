/- Each operation of the abstract machine is the model's: memory. -/
import Derived.Test.YtkkbdebmilagoaaGreatDoorAbOps3
set_option linter.unusedSimpArgs false
set_option linter.unusedVariables false
namespace Go.Ab
open Go

section
variable {X : Ctx} {s : St} {g : FuncId} {o : Oper} {ρ : Operand → AV} {av : Operand → Value} {v : AV} {h' : Heap} {tg : Tag}

theorem run_newRow {P : Program} {w : World} (t : TypeId) (c : Array Value) : (newRow t c).run P w = .ok ⟨w.heap.size, 0, none⟩ { w with heap := w.heap.push (.cells c t) } := by
  simp [newRow]

/-- A box, made. -/
theorem box_done {run : Result Next} (hok : Ok X s) {t : TypeId} {x : AV} {cv : Value} {o' : Obj} (hrun : run = .ok (.value (.pointer (some ⟨s.w.heap.size, 0, none⟩))) { s.w with heap := s.w.heap.push (.cells cv.cells t) })
    (hc : Cells s x cv) (ho : o' = { rows := [x], gen := 0, ver := 0, live := true, box := true, ty := t, es := x.cells.length }) :
    Done X s run (.ptr s.H.length 0 0 0) (s.H ++ [o']) := by
  subst ho
  obtain ⟨s', hw, hH, hloc, hst, hok'⟩ := pushObj hok { rows := [x], gen := 0, ver := 0, live := true, box := true, ty := t, es := x.cells.length } cv.cells t
    (w' := { s.w with heap := s.w.heap.push (.cells cv.cells t) }) .zero rfl (by simp [hc.size]) (by simp) (by simp) (by simpa using hc.cell) (by simp) (by
      intro r c y z hy hz
      cases r with
      | succ r => simp at hy
      | zero =>
        simp at hy; subst hy
        have hlt : c < cv.cells.size := by rw [hc.size]; exact (List.getElem?_eq_some_iff.1 hz).1
        exact ⟨cv.cells[c], by simp [hlt], hc.rel c z _ hz (Array.getElem?_eq_getElem hlt)⟩)
  refine ⟨_, _, s', by rw [hrun, hw], .inl rfl, hH, hst, hok', ?_⟩
  have := Rel.ptr (s := s') s.H.length 0 0 0 { rows := [x], gen := 0, ver := 0, live := true, box := true, ty := t, es := x.cells.length } (by rw [hH]; simp) rfl rfl (by simp)
  rw [hloc] at this
  simpa [ad] using this

theorem sound_alloc {t : TypeId} (hop : o.op = .alloc t) (hok : Ok X s) (hρ : ∀ x, Rel s (ρ x) (av x))
    (e : opK X g o ρ s.H (fun v h t => some (v, h, t)) = some (v, h', tg)) : Done X s ((execOp av o).run X.P s.w) v h' := by
  simp only [opK, hop] at e
  split at e
  · rename_i z hz
    split at e
    · rename_i hf
      simp only [newK, Option.some.injEq, Prod.mk.injEq] at e
      obtain ⟨rfl, rfl, rfl⟩ := e
      obtain ⟨zv, hzr, hzrel, hzc, hzf⟩ := zeroOf_rel (s := s) hz
      obtain ⟨_, hl, _⟩ := fits_cells hf hzrel
      refine box_done hok (x := z) (cv := zv) (t := t) ?_ hzc (by rw [hl])
      simp only [execOp, hop, Instr.alloc, Sem.run_bind, hzr, Result.andThen_ok, newVar, run_newRow, Sem.run_pure]
    · cases e
  · cases e

theorem sound_box {t : TypeId} {x : Operand} (hop : o.op = .box t x) (hok : Ok X s) (hρ : ∀ x, Rel s (ρ x) (av x))
    (e : opK X g o ρ s.H (fun v h t => some (v, h, t)) = some (v, h', tg)) : Done X s ((execOp av o).run X.P s.w) v h' := by
  simp only [opK, hop] at e
  split at e
  · rename_i hf
    simp only [newK, Option.some.injEq, Prod.mk.injEq] at e
    obtain ⟨rfl, rfl, rfl⟩ := e
    have hr := normT_rel (P := X.P) (t := t) (hρ x)
    obtain ⟨hc, hl, _⟩ := fits_cells hf hr
    refine box_done hok (x := normT X.P t (ρ x)) (cv := av x) (t := t) ?_ hc (by rw [hl])
    simp only [execOp, hop, Instr.box, Sem.run_bind, newVar, run_newRow, Result.andThen_ok, Sem.run_pure]
  · cases e

theorem splice_length (cs : List AV) (off : Nat) (xs : List AV) (h : off + xs.length ≤ cs.length) : (splice cs off xs).length = cs.length := by
  simp [splice]; omega

theorem splice_get (cs : List AV) (off : Nat) (xs : List AV) (h : off + xs.length ≤ cs.length) (j : Nat) :
    (splice cs off xs)[j]? = if off ≤ j ∧ j < off + xs.length then xs[j - off]? else cs[j]? := by
  unfold splice
  rw [List.append_assoc]
  by_cases h1 : j < off
  · rw [List.getElem?_append_left (by simp; omega), List.getElem?_take, if_pos h1, if_neg (by omega)]
  · rw [List.getElem?_append_right (by simp; omega)]
    have e1 : (cs.take off).length = off := by simp; omega
    rw [e1]
    by_cases h2 : j < off + xs.length
    · rw [List.getElem?_append_left (by omega), if_pos (by omega)]
    · rw [List.getElem?_append_right (by omega), if_neg (by omega), List.getElem?_drop]
      congr 1
      omega

theorem mem_splice {cs : List AV} {off : Nat} {xs : List AV} {c : AV} (h : c ∈ splice cs off xs) : c ∈ cs ∨ c ∈ xs := by
  unfold splice at h
  simp only [List.mem_append] at h
  rcases h with (h | h) | h
  · exact .inl (List.mem_of_mem_take h)
  · exact .inr h
  · exact .inl (List.mem_of_mem_drop h)

theorem foldl_set (vs : List Value) : ∀ (k off : Nat) (cs : Array Value), off + k + vs.length ≤ cs.size →
    ((vs.zipIdx k).foldl (fun cs (p : Value × Nat) => cs.setIfInBounds (off + p.2) p.1) cs).size = cs.size ∧
    ∀ j, ((vs.zipIdx k).foldl (fun cs (p : Value × Nat) => cs.setIfInBounds (off + p.2) p.1) cs)[j]? = if off + k ≤ j ∧ j < off + k + vs.length then vs[j - (off + k)]? else cs[j]? := by
  induction vs with
  | nil => intro k off cs h; simp; intro j h1 h2; omega
  | cons v vs ih =>
    intro k off cs h
    simp only [List.zipIdx_cons, List.foldl_cons]
    have h' : off + (k + 1) + vs.length ≤ (cs.setIfInBounds (off + k) v).size := by simp at h ⊢; omega
    obtain ⟨h1, h2⟩ := ih (k + 1) off (cs.setIfInBounds (off + k) v) h'
    refine ⟨by rw [h1]; simp, fun j => ?_⟩
    rw [h2 j]
    simp only [List.length_cons] at h ⊢
    by_cases ha : off + (k + 1) ≤ j ∧ j < off + (k + 1) + vs.length
    · rw [if_pos ha, if_pos (by omega)]
      have : j - (off + k) = (j - (off + (k + 1))) + 1 := by omega
      rw [this, List.getElem?_cons_succ]
    · rw [if_neg ha]
      by_cases hb : j = off + k
      · subst hb
        rw [if_pos (by omega), Array.getElem?_setIfInBounds_self_of_lt (by omega)]
        simp
      · rw [Array.getElem?_setIfInBounds_ne (fun hh => hb hh.symm), if_neg (by omega)]

/-- A literal's parts laid over its zero cells. -/
theorem fillCells_run {P : Program} {place : Nat → Option (Nat × TypeId)} {pl : Nat → Option (Nat × Nat)} (hpl : ∀ i off t, place i = some (off, t) → pl i = some (off, P.cellsOf t)) :
    ∀ {parts : List (Nat × AV)} {vparts : List (Nat × Value)} {cells out : List AV} {vcells : Array Value}, fillCells P place cells parts = some out →
    parts.length = vparts.length → (∀ (j : Nat) (p : Nat × AV) (q : Nat × Value), parts[j]? = some p → vparts[j]? = some q → p.1 = q.1 ∧ Rel s p.2 q.2) →
    vcells.size = cells.length → (∀ c ∈ cells, isCell c = true) → (∀ (j : Nat) (y : AV) (z : Value), cells[j]? = some y → vcells[j]? = some z → Rel s y z) →
    ∃ vout, Instr.fill pl vcells vparts = some vout ∧ vout.size = out.length ∧ (∀ c ∈ out, isCell c = true) ∧ ∀ (j : Nat) (y : AV) (z : Value), out[j]? = some y → vout[j]? = some z → Rel s y z
  | [], [], cells, out, vcells, e, _, _, hsz, hcell, hr => by
    simp [fillCells] at e; subst e
    exact ⟨vcells, rfl, hsz, hcell, hr⟩
  | [], _ :: _, _, _, _, _, hl, _, _, _, _ => by simp at hl
  | _ :: _, [], _, _, _, _, hl, _, _, _, _ => by simp at hl
  | (i, x) :: rest, (i', x') :: vrest, cells, out, vcells, e, hl, hp, hsz, hcell, hr => by
    simp only [fillCells] at e
    split at e
    · cases e
    · rename_i off t hplace
      split at e
      · rename_i hf
        simp only [Bool.and_eq_true] at hf
        obtain ⟨hi, hx⟩ := hp 0 _ _ rfl rfl
        simp only at hi hx
        obtain ⟨hc, hlen, _⟩ := fits_cells hf.1 (normT_rel (P := P) (t := t) hx)
        have hle : off + P.cellsOf t ≤ cells.length := by simpa using hf.2
        have hfold := foldl_set x'.cells.toList 0 off vcells (by simp only [Array.length_toList, hc.size, hlen, hsz]; omega)
        have hfe : (x'.cells.zipIdx.foldl (fun cs (p : Value × Nat) => cs.setIfInBounds (off + p.2) p.1) vcells) = ((x'.cells.toList.zipIdx 0).foldl (fun cs (p : Value × Nat) => cs.setIfInBounds (off + p.2) p.1) vcells) := by
          rw [← Array.foldl_toList]; simp
        obtain ⟨vout, h1, h2, h3, h4⟩ := fillCells_run hpl (vcells := (x'.cells.zipIdx.foldl (fun cs (p : Value × Nat) => cs.setIfInBounds (off + p.2) p.1) vcells)) e (by simpa using hl)
          (fun j p q h1 h2 => hp (j + 1) p q (by simpa using h1) (by simpa using h2)) (by rw [hfe, hfold.1, hsz, splice_length _ _ _ (by omega)])
          (fun c hcm => (mem_splice hcm).elim (hcell c) (hc.cell c)) (fun j y z hy hz => by
            rw [splice_get _ _ _ (by omega)] at hy
            rw [hfe, hfold.2 j] at hz
            simp only [Nat.add_zero, Array.length_toList, hc.size, hlen] at hy hz
            split at hy
            · rename_i hj
              rw [if_pos hj] at hz
              exact hc.rel _ y z hy (by rw [Array.getElem?_toList] at hz; exact hz)
            · rename_i hj
              rw [if_neg hj] at hz
              exact hr j y z hy hz)
        refine ⟨vout, ?_, h2, h3, h4⟩
        subst hi
        simp only [Instr.fill, hpl _ _ _ hplace]
        rw [if_neg (by simp only [hc.size, hlen, hsz, Bool.or_eq_true, decide_eq_true_eq, not_or]; omega)]
        exact h1
      · cases e

theorem parts_rel {parts : Array (Nat × Operand)} (hρ : ∀ x, Rel s (ρ x) (av x)) : ∀ (j : Nat) (p : Nat × AV) (q : Nat × Value), (parts.toList.map fun (i, x) => (i, ρ x))[j]? = some p → ((parts.map fun (i, x) => (i, av x)).toList)[j]? = some q → p.1 = q.1 ∧ Rel s p.2 q.2 := by
  intro j p q hp hq
  simp only [List.getElem?_map, Option.map_eq_some_iff, Array.toList_map] at hp hq
  obtain ⟨a, ha, rfl⟩ := hp
  obtain ⟨b, hb, rfl⟩ := hq
  rw [ha] at hb
  obtain rfl := Option.some.inj hb
  exact ⟨rfl, hρ _⟩
end
end Go.Ab
