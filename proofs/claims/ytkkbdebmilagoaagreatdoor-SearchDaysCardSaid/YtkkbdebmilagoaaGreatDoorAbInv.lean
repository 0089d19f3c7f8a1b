/- What it takes that the evaluator answers. -/
import Derived.Test.YtkkbdebmilagoaaGreatDoorAbRel
import Derived.Test.YtkkbdebmilagoaaGreatDoorAbNat
namespace Go.Ab
open Go
section
variable {β : Type}

theorem br_some {b : Bool} {x y : Option β} {r : β} (h : br b x y = some r) : (b = true ∧ x = some r) ∨ (b = false ∧ y = some r) := by
  cases b
  · exact .inr ⟨rfl, h⟩
  · exact .inl ⟨rfl, h⟩
theorem br_yes {b : Bool} {x : Option β} {r : β} (h : br b x none = some r) : b = true ∧ x = some r := by
  cases b
  · cases h
  · exact ⟨rfl, h⟩
theorem br_no {b : Bool} {x : Option β} {r : β} (h : br b none x = some r) : b = false ∧ x = some r := by
  cases b
  · exact ⟨rfl, h⟩
  · cases h
theorem optK_some {α : Type} {o : Option α} {c : α → Option β} {r : β} (h : optK o c = some r) : ∃ x, o = some x ∧ c x = some r := by
  unfold optK at h
  split at h
  · exact ⟨_, rfl, h⟩
  · cases h
theorem ite_yes {p : Prop} [Decidable p] {x : Option β} {r : β} (h : (if p then x else none) = some r) : p ∧ x = some r := by
  split at h
  · exact ⟨‹_›, h⟩
  · cases h
theorem objK_some {h : Heap} {id gen : Nat} {c : Obj → Option β} {r : β} (e : objK h id gen c = some r) :
    ∃ o, h[id]? = some o ∧ o.live = true ∧ o.gen = gen ∧ c o = some r := by
  unfold objK at e
  split at e
  · rename_i o ho
    obtain ⟨h1, h2⟩ := br_yes e
    simp only [Bool.and_eq_true] at h1
    exact ⟨o, ho, h1.1.1, Nat.eq_of_beq_eq_true h1.1.2, h2⟩
  · cases e
theorem objK_it {h : Heap} {id gen : Nat} {c : Obj → Option β} {r : β} (e : objK h id gen c = some r) {o : Obj} (ho : h[id]? = some o) : o.it = none := by
  unfold objK at e
  rw [ho] at e
  obtain ⟨h1, _⟩ := br_yes e
  simp only [Bool.and_eq_true, Option.isNone_iff_eq_none] at h1
  exact h1.2
theorem iterObjK_some {h : Heap} {id gen : Nat} {c : Obj → ByteArray → Nat → Option β} {r : β} (e : iterObjK h id gen c = some r) :
    ∃ o s p, h[id]? = some o ∧ o.live = true ∧ o.gen = gen ∧ o.it = some (s, p) ∧ c o s p = some r := by
  unfold iterObjK at e
  split at e
  · rename_i o ho
    obtain ⟨h1, h2⟩ := br_yes e
    simp only [Bool.and_eq_true] at h1
    split at h2
    · rename_i s p hit
      exact ⟨o, s, p, ho, h1.1, Nat.eq_of_beq_eq_true h1.2, hit, h2⟩
    · cases h2
  · cases e
theorem getRow_some {rows : List AV} {i : Nat} {c : AV → Option β} {r : β} (e : getRow rows i c = some r) : ∃ x, rows[i]? = some x ∧ c x = some r := by
  unfold getRow at e
  split at e
  · exact ⟨_, ‹_›, e⟩
  · cases e
theorem callK_some {K : PureK} {g : FuncId} {as : List AV} {c : AV → Option β} {r : β} (e : callK K g as c = some r) : ∃ v, K g as = some v ∧ c v = some r := by
  unfold callK at e
  split at e
  · exact ⟨_, ‹_›, e⟩
  · cases e
theorem leafK_some {s : Sh} {x : AV} {c : AV → Option β} {r : β} (e : leafK s x c = some r) : c x = some r := by
  cases s <;> simp only [leafK] at e
  · unfold asInt at e
    split at e
    · obtain ⟨rfl, e⟩ := ite_yes e; exact e
    · cases e
  · unfold asBool at e; split at e <;> first | exact e | cases e
  · unfold asStr at e; split at e <;> first | exact e | cases e
  · unfold asLst at e
    split at e
    · split at e
      · rename_i hb; rw [Nat.eq_of_beq_eq_true hb]; exact e
      · cases e
    · cases e
  · exact e
  · exact e
  · exact e
theorem leavesK_some {g : Nat → AV} : ∀ {ss : List Sh} {i : Nat} {acc : List AV} {c : List AV → Option β} {r : β}, leavesK ss g i acc c = some r →
    c (acc.reverse ++ (List.range ss.length).map fun j => g (i + j)) = some r
  | [], i, acc, c, r, e => by simpa [leavesK] using e
  | s :: ss, i, acc, c, r, e => by
    have := leavesK_some (leafK_some e)
    simp only [List.reverse_cons, List.append_assoc, List.singleton_append] at this
    rw [List.length_cons, List.range_succ_eq_map]
    simp only [List.map_cons, List.map_map, Nat.add_zero]
    rw [show ((fun j => g (i + j)) ∘ Nat.succ) = fun j => g (i + 1 + j) from funext fun j => by show g (i + (j + 1)) = g (i + 1 + j); congr 1; omega]
    exact this
theorem asAgg_some {x : AV} {n : Nat} {c : (Nat → AV) → Option β} {r : β} (e : asAgg x n c = some r) :
    ∃ cs, x = .agg cs ∧ cs.length = n ∧ c (fun i => cs.getD i .dead) = some r := by
  unfold asAgg at e
  split at e
  · obtain ⟨h, e⟩ := ite_yes e; exact ⟨_, rfl, h, e⟩
  · cases e
theorem asTup_some {x : AV} {n : Nat} {c : (Nat → AV) → Option β} {r : β} (e : asTup x n c = some r) :
    ∃ cs, x = .tup cs ∧ cs.length = n ∧ c (fun i => cs.getD i .dead) = some r := by
  unfold asTup at e
  split at e
  · obtain ⟨h, e⟩ := ite_yes e; exact ⟨_, rfl, h, e⟩
  · cases e
theorem ifcK_some {P : Program} {t : TypeId} {x : AV} {c : AV → Option β} {r : β} (e : ifcK P t x c = some r) : c x = some r := by
  unfold ifcK at e
  split at e
  · split at e
    · exact e
    · exact e
    · cases e
  · exact e
theorem asBig_some {x : AV} {n : Nat} {c : List AV → Option β} {r : β} (e : asBig x n c = some r) : ∃ cs, x = .agg cs ∧ cs.length = n ∧ c cs = some r := by
  unfold asBig at e
  split at e
  · obtain ⟨h, e⟩ := br_yes e; exact ⟨_, rfl, Nat.eq_of_beq_eq_true h, e⟩
  · cases e
theorem range_getD (cs : List AV) : (List.range cs.length).map (fun j => cs.getD (0 + j) .dead) = cs := by
  apply List.ext_getElem?
  intro j
  by_cases hj : j < cs.length
  · simp [hj, List.getD]
  · simp [hj]
theorem shapeK_some {s : Sh} {x : AV} {c : AV → Option β} {r : β} (e : shapeK s x c = some r) : c x = some r := by
  unfold shapeK at e
  split at e
  · obtain ⟨cs, rfl, hl, e⟩ := asAgg_some e
    have := leavesK_some e
    rw [← hl] at this
    simp only [List.reverse_nil, List.nil_append] at this
    rwa [range_getD cs] at this
  · obtain ⟨cs, rfl, _, e⟩ := asBig_some e
    exact e
  · exact leafK_some e
theorem shapesTupK_some {g : Nat → AV} : ∀ {ss : List Sh} {i : Nat} {acc : List AV} {c : List AV → Option β} {r : β}, shapesTupK ss g i acc c = some r →
    c (acc.reverse ++ (List.range ss.length).map fun j => g (i + j)) = some r
  | [], i, acc, c, r, e => by simpa [shapesTupK] using e
  | s :: ss, i, acc, c, r, e => by
    have := shapesTupK_some (shapeK_some e)
    simp only [List.reverse_cons, List.append_assoc, List.singleton_append] at this
    rw [List.length_cons, List.range_succ_eq_map]
    simp only [List.map_cons, List.map_map, Nat.add_zero]
    rw [show ((fun j => g (i + j)) ∘ Nat.succ) = fun j => g (i + 1 + j) from funext fun j => by show g (i + (j + 1)) = g (i + 1 + j); congr 1; omega]
    exact this
theorem resultK_some {ss : List Sh} {x : AV} {c : AV → Option β} {r : β} (e : resultK ss x c = some r) : c x = some r := by
  unfold resultK at e
  split at e
  · exact shapeK_some e
  · obtain ⟨cs, rfl, hl, e⟩ := asTup_some e
    have := shapesTupK_some e
    rw [← hl] at this
    simp only [List.reverse_nil, List.nil_append] at this
    rwa [range_getD cs] at this
theorem rowK_some {P : Program} {o : Obj} {i : Nat} {c : AV → Option β} {r : β} (e : rowK P o i c = some r) : ∃ x, o.rows[i]? = some x ∧ c x = some r := by
  unfold rowK at e
  split at e
  · split at e
    · exact ⟨_, ‹_›, e⟩
    · cases e
  · obtain ⟨x, hx, e⟩ := getRow_some e
    exact ⟨x, hx, shapeK_some e⟩
theorem bytesK_some {rows : List AV} {c : List UInt8 → Option β} {r : β} (e : bytesK rows c = some r) : ∃ l, rowsBytes rows = some l ∧ c l = some r := by
  unfold bytesK at e
  split at e
  · exact ⟨_, ‹_›, e⟩
  · cases e
theorem boundsK_some {n : Nat} {lo hi : Option Int} {c : Option β} {r : β} (e : boundsK n lo hi c = some r) :
    c = some r ∧ (∀ h, hi = some h → 0 ≤ h ∧ h ≤ n) ∧ (∀ l, lo = some l → 0 ≤ l ∧ l ≤ hi.getD n) := by
  unfold boundsK at e
  split at e
  · exact ⟨e, by simp, by simp⟩
  · obtain ⟨h1, e⟩ := br_yes e
    obtain ⟨h2, e⟩ := br_yes e
    simp at h1 h2
    exact ⟨e, by simp; omega, by simp⟩
  · obtain ⟨h1, e⟩ := br_yes e
    obtain ⟨h2, e⟩ := br_yes e
    simp at h1 h2
    exact ⟨e, by simp, by simp; omega⟩
  · obtain ⟨h1, e⟩ := br_yes e
    obtain ⟨h2, e⟩ := br_yes e
    obtain ⟨h3, e⟩ := br_yes e
    simp at h1 h2 h3
    exact ⟨e, by simp; omega, by simp; omega⟩
end

/-! Values' cells. -/
section
variable {X : Ctx} {s : St}

theorem Rel.v_inv {x cv : Value} (h : Rel s (.v x) cv) : cv = x ∧ isScalar x = true := by cases h; exact ⟨rfl, ‹_›⟩

theorem scalar_one {x : Value} (h : isScalar x = true) : one x := by
  unfold one
  cases x <;> first | rfl | (simp [isScalar] at h)

/-- A cell's value is no aggregate. -/
theorem Rel.one {x : AV} {v : Value} (h : Rel s x v) (hx : isCell x = true) : one v := by
  cases h <;> first | exact scalar_one ‹_› | rfl | assumption | (simp [isCell] at hx)

theorem one_cells {v : Value} (h : one v) : v.cells = #[v] := by
  unfold Go.Ab.one at h
  cases v <;> first | rfl | (simp [Value.oneCell'] at h)

theorem cell_cells {x : AV} (h : isCell x = true) : x.cells = [x] := by
  cases x <;> first | rfl | (simp [isCell] at h)

/-- A value cell by cell. -/
structure Cells (s : St) (x : AV) (v : Value) : Prop where
  size : v.cells.size = x.cells.length
  one : ∀ u ∈ v.cells.toList, one u
  cell : ∀ c ∈ x.cells, isCell c = true
  rel : ∀ (j : Nat) (y : AV) (u : Value), x.cells[j]? = some y → v.cells[j]? = some u → Rel s y u

theorem Cells.of_cell {x : AV} {v : Value} (h : Rel s x v) (hx : isCell x = true) : Cells s x v := by
  have h1 := h.one hx
  constructor
  · rw [one_cells h1, cell_cells hx]; rfl
  · rw [one_cells h1]; simpa using h1
  · rw [cell_cells hx]; simpa using hx
  · rw [one_cells h1, cell_cells hx]
    intro j y u hy hu
    cases j with
    | zero => simp at hy hu; subst hy; subst hu; exact h
    | succ j => simp at hy

theorem Cells.of_agg {cs : List AV} {v : Value} (h : Rel s (.agg cs) v) : ∃ vs, v = .agg vs ∧ Cells s (.agg cs) v := by
  cases h with
  | agg cs vs h1 hcell h =>
    refine ⟨vs, rfl, h1, ?_, hcell, fun j y u hy hu => h j y u hy hu⟩
    intro u hu
    obtain ⟨j, hj, rfl⟩ := List.mem_iff_getElem.1 hu
    have hj' : j < vs.size := by simpa [Value.cells] using hj
    have hjc : j < cs.length := by omega
    exact (h j cs[j] vs[j] (List.getElem?_eq_getElem hjc) (Array.getElem?_eq_getElem hj')).one (hcell _ (List.getElem_mem hjc))

theorem Cells.mono {s' : St} (hst : Step s s') {x : AV} {v : Value} (h : Cells s x v) : Cells s' x v :=
  ⟨h.size, h.one, h.cell, fun j y u hy hu => (h.rel j y u hy hu).mono hst⟩

theorem beq_len {a b : Nat} (h : Nat.beq a b = true) : a = b := Nat.eq_of_beq_eq_true h

theorem fits_cells {P : Program} {t : TypeId} {x : AV} {v : Value} (hf : fits P t x = true) (h : Rel s x v) :
    Cells s x v ∧ x.cells.length = P.cellsOf t ∧ (kindT P t = some true → ∃ cs vs, x = .agg cs ∧ v = .agg vs) ∧ (kindT P t = some false → isCell x = true ∧ P.cellsOf t = 1) ∧ (kindT P t).isSome = true := by
  unfold fits at hf
  split at hf
  · rename_i hk
    split at hf
    · rename_i cs
      obtain ⟨vs, rfl, hc⟩ := Cells.of_agg h
      exact ⟨hc, beq_len hf, fun _ => ⟨cs, vs, rfl, rfl⟩, fun hk' => by rw [hk] at hk'; simp at hk', by rw [hk]; rfl⟩
    · cases hf
  · rename_i hk
    simp only [Bool.and_eq_true] at hf
    have h1 := beq_len hf.2
    refine ⟨Cells.of_cell h hf.1, by rw [cell_cells hf.1]; exact h1, fun hk' => by rw [hk] at hk'; simp at hk', fun _ => ⟨hf.1, h1.symm⟩, by rw [hk]; rfl⟩
  · cases hf

/-- A value of a type is told whole by its cells. -/
theorem Rel.of_cells {cs : List AV} {vs : Array Value} (h1 : vs.size = cs.length) (hcell : ∀ c ∈ cs, isCell c = true)
    (h : ∀ (j : Nat) (y : AV) (u : Value), cs[j]? = some y → vs[j]? = some u → Rel s y u) : Rel s (.agg cs) (.agg vs) := .agg cs vs h1 hcell h

theorem normT_rel {P : Program} {t : TypeId} {x : AV} {v : Value} (h : Rel s x v) : Rel s (normT P t x) v := by
  unfold normT
  split
  · split
    · cases h with
      | nil => exact .nil _
    · exact h
  · exact h
end
end Go.Ab
