/- What an operation's tag says of it. -/
import Derived.Test.YtkkbdebmilagoaaGreatDoorAbTurn2
set_option linter.unusedSimpArgs false
set_option linter.unusedVariables false
namespace Go.Ab
open Go

abbrev Res := Option (AV × Heap × Tag)

/-- What a tag says of an operation's outcome over one memory, and over another. -/
def Two (h h2 : Heap) (a b : Res) : Prop :=
  ∀ v h' t, a = some (v, h', t) → match t with
    | .pure => h' = h ∧ b = some (v, h2, .pure)
    | .rd id => h' = h ∧ id < h.length ∧ (h2[id]? = h[id]? → b = some (v, h2, .rd id))
    | .al => ∃ ob, h' = h ++ [ob]
    | .wr id => ∀ j, j ≠ id → h'[j]? = h[j]?
    | .any => False

section
variable {h h2 : Heap}

theorem two_none (b : Res) : Two h h2 none b := fun _ _ _ h => by cases h
theorem two_pure (v : AV) : Two h h2 (some (v, h, .pure)) (some (v, h2, .pure)) := by
  intro _ _ _ he
  cases he
  exact ⟨rfl, rfl⟩
theorem two_new (o : Obj) (x : Nat → AV) (b : Res) : Two h h2 (newK h o x fun v h t => some (v, h, t)) b := by
  intro _ _ _ he
  unfold newK at he
  cases he
  exact ⟨o, rfl⟩
theorem two_br {b : Bool} {x y x' y' : Res} (h1 : Two h h2 x x') (h3 : Two h h2 y y') : Two h h2 (br b x y) (br b x' y') := by cases b <;> assumption
theorem two_ite {p : Prop} [Decidable p] {x y x' y' : Res} (h1 : Two h h2 x x') (h3 : Two h h2 y y') : Two h h2 (if p then x else y) (if p then x' else y') := by split <;> assumption
theorem two_getRow {rows : List AV} {i : Nat} {c d : AV → Res} (hc : ∀ x, Two h h2 (c x) (d x)) : Two h h2 (getRow rows i c) (getRow rows i d) := by
  unfold getRow
  split
  · exact hc _
  · exact two_none _
theorem two_leafK {s : Sh} {x : AV} {c d : AV → Res} (hc : ∀ x, Two h h2 (c x) (d x)) : Two h h2 (leafK s x c) (leafK s x d) := by
  cases s <;> simp only [leafK, asInt, asBool, asStr, asLst] <;> repeat' first
    | exact hc _
    | exact two_none _
    | split
theorem two_leaves {g : Nat → AV} {c d : List AV → Res} (hc : ∀ x, Two h h2 (c x) (d x)) : ∀ (ss : List Sh) (i : Nat) (acc : List AV), Two h h2 (leavesK ss g i acc c) (leavesK ss g i acc d)
  | [], _, _ => hc _
  | s :: ss, i, acc => by
    simp only [leavesK]
    exact two_leafK fun x => two_leaves hc ss _ _
theorem two_shape {s : Sh} {x : AV} {c d : AV → Res} (hc : ∀ x, Two h h2 (c x) (d x)) : Two h h2 (shapeK s x c) (shapeK s x d) := by
  cases s with
  | agg ss =>
    simp only [shapeK, asAgg]
    repeat' first
      | exact two_none _
      | exact two_leaves (fun cs => hc _) _ _ _
      | split
  | big n =>
    simp only [shapeK, asBig]
    split
    · exact two_br (hc _) (two_none _)
    · exact two_none _
  | _ => simp only [shapeK]; exact two_leafK hc
theorem two_subval {P : Program} {t : TypeId} {row : AV} {off : Nat} {c d : AV → Res} (hc : ∀ x, Two h h2 (c x) (d x)) : Two h h2 (subvalK P t row off c) (subvalK P t row off d) := by
  unfold subvalK
  repeat' first
    | exact hc _
    | exact two_none _
    | apply two_br
    | (refine two_leafK fun _ => ?_)
    | split
theorem two_row {P : Program} {o : Obj} {r : Nat} {c d : AV → Res} (hc : ∀ x, Two h h2 (c x) (d x)) : Two h h2 (rowK P o r c) (rowK P o r d) := by
  unfold rowK
  repeat' first
    | exact hc _
    | exact two_none _
    | exact two_getRow fun _ => two_shape hc
    | split
theorem two_bytes {rows : List AV} {c d : List UInt8 → Res} (hc : ∀ x, Two h h2 (c x) (d x)) : Two h h2 (bytesK rows c) (bytesK rows d) := by
  unfold bytesK
  split
  · exact hc _
  · exact two_none _
theorem two_bounds {n : Nat} {lo hi : Option Int} {c d : Res} (hc : Two h h2 c d) : Two h h2 (boundsK n lo hi c) (boundsK n lo hi d) := by
  unfold boundsK
  repeat' first
    | exact hc
    | exact two_none _
    | apply two_br
    | split
theorem two_ifc {P : Program} {t : TypeId} {x : AV} {c d : AV → Res} (hc : ∀ x, Two h h2 (c x) (d x)) : Two h h2 (ifcK P t x c) (ifcK P t x d) := by
  unfold ifcK
  split
  · split
    · exact hc _
    · exact hc _
    · exact two_none _
  · exact hc _
theorem two_bin {P : Program} {op : BinOp} {t : TypeId} {x y : Operand} {a b : AV} {c d : AV → Res} (hc : ∀ x, Two h h2 (c x) (d x)) : Two h h2 (binK P op t x y a b c) (binK P op t x y a b d) := by
  unfold binK
  repeat' first
    | exact hc _
    | exact two_none _
    | apply two_br
    | apply two_ite
    | split

/-- Under an object. -/
def Under (id : Nat) (h h2 : Heap) (a b : Res) : Prop :=
  ∀ v h' t, a = some (v, h', t) → (t = .rd id ∧ h' = h ∧ b = some (v, h2, .rd id)) ∨ (t = .wr id ∧ ∀ j, j ≠ id → h'[j]? = h[j]?) ∨ (t = .al ∧ ∃ ob, h' = h ++ [ob])

theorem two_obj {id gen : Nat} {c d : Obj → Res} (hc : ∀ o, Under id h h2 (c o) (d o)) : Two h h2 (objK h id gen c) (objK h2 id gen d) := by
  intro v h' t he
  obtain ⟨o, ho, hl, hg, hco⟩ := objK_some he
  rcases hc o v h' t hco with ⟨rfl, rfl, hb⟩ | ⟨rfl, hb⟩ | ⟨rfl, hb⟩
  · refine ⟨rfl, (List.getElem?_eq_some_iff.1 ho).1, fun h3 => ?_⟩
    unfold objK
    rw [h3, ho]
    simp only []
    rw [hl, hg, objK_it he ho]
    simpa [br] using hb
  · exact hb
  · exact hb

theorem two_iterObj {id gen : Nat} {c d : Obj → ByteArray → Nat → Res} (hc : ∀ o s p, Under id h h2 (c o s p) (d o s p)) : Two h h2 (iterObjK h id gen c) (iterObjK h2 id gen d) := by
  intro v h' t he
  obtain ⟨o, s, p, ho, hl, hg, hit, hco⟩ := iterObjK_some he
  rcases hc o s p v h' t hco with ⟨rfl, rfl, hb⟩ | ⟨rfl, hb⟩ | ⟨rfl, hb⟩
  · refine ⟨rfl, (List.getElem?_eq_some_iff.1 ho).1, fun h3 => ?_⟩
    unfold iterObjK
    rw [h3, ho]
    simp only []
    rw [hl, hg, hit]
    simpa [br] using hb
  · exact hb
  · exact hb

theorem un_none (id : Nat) (b : Res) : Under id h h2 none b := fun _ _ _ h => by cases h
theorem un_rd (id : Nat) (v : AV) : Under id h h2 (some (v, h, .rd id)) (some (v, h2, .rd id)) := by
  intro _ _ _ he
  cases he
  exact .inl ⟨rfl, rfl, rfl⟩
theorem un_set (id : Nat) (o : Obj) (x : AV) (b : Res) : Under id h h2 (setK h id o x fun v h t => some (v, h, t)) b := by
  intro _ _ _ he
  unfold setK at he
  cases he
  exact .inr (.inl ⟨rfl, fun j hj => List.getElem?_set_ne (Ne.symm hj)⟩)
theorem un_new (id : Nat) (o : Obj) (x : Nat → AV) (b : Res) : Under id h h2 (newK h o x fun v h t => some (v, h, t)) b := by
  intro _ _ _ he
  unfold newK at he
  cases he
  exact .inr (.inr ⟨rfl, o, rfl⟩)
theorem un_br {id : Nat} {b : Bool} {x y x' y' : Res} (h1 : Under id h h2 x x') (h3 : Under id h h2 y y') : Under id h h2 (br b x y) (br b x' y') := by cases b <;> assumption
theorem un_getRow {id : Nat} {rows : List AV} {i : Nat} {c d : AV → Res} (hc : ∀ x, Under id h h2 (c x) (d x)) : Under id h h2 (getRow rows i c) (getRow rows i d) := by
  unfold getRow
  split
  · exact hc _
  · exact un_none _ _
theorem un_leafK {id : Nat} {s : Sh} {x : AV} {c d : AV → Res} (hc : ∀ x, Under id h h2 (c x) (d x)) : Under id h h2 (leafK s x c) (leafK s x d) := by
  cases s <;> simp only [leafK, asInt, asBool, asStr, asLst] <;> repeat' first
    | exact hc _
    | exact un_none _ _
    | split
theorem un_leaves {id : Nat} {g : Nat → AV} {c d : List AV → Res} (hc : ∀ x, Under id h h2 (c x) (d x)) : ∀ (ss : List Sh) (i : Nat) (acc : List AV), Under id h h2 (leavesK ss g i acc c) (leavesK ss g i acc d)
  | [], _, _ => hc _
  | s :: ss, i, acc => by
    simp only [leavesK]
    exact un_leafK fun x => un_leaves hc ss _ _
theorem un_shape {id : Nat} {s : Sh} {x : AV} {c d : AV → Res} (hc : ∀ x, Under id h h2 (c x) (d x)) : Under id h h2 (shapeK s x c) (shapeK s x d) := by
  cases s with
  | agg ss =>
    simp only [shapeK, asAgg]
    repeat' first
      | exact un_none _ _
      | exact un_leaves (fun cs => hc _) _ _ _
      | split
  | big n =>
    simp only [shapeK, asBig]
    split
    · exact un_br (hc _) (un_none _ _)
    · exact un_none _ _
  | _ => simp only [shapeK]; exact un_leafK hc
theorem un_subval {id : Nat} {P : Program} {t : TypeId} {row : AV} {off : Nat} {c d : AV → Res} (hc : ∀ x, Under id h h2 (c x) (d x)) : Under id h h2 (subvalK P t row off c) (subvalK P t row off d) := by
  unfold subvalK
  repeat' first
    | exact hc _
    | exact un_none _ _
    | apply un_br
    | (refine un_leafK fun _ => ?_)
    | split
theorem un_row {id : Nat} {P : Program} {o : Obj} {r : Nat} {c d : AV → Res} (hc : ∀ x, Under id h h2 (c x) (d x)) : Under id h h2 (rowK P o r c) (rowK P o r d) := by
  unfold rowK
  repeat' first
    | exact hc _
    | exact un_none _ _
    | exact un_getRow fun _ => un_shape hc
    | split
theorem un_bytes {id : Nat} {rows : List AV} {c d : List UInt8 → Res} (hc : ∀ x, Under id h h2 (c x) (d x)) : Under id h h2 (bytesK rows c) (bytesK rows d) := by
  unfold bytesK
  split
  · exact hc _
  · exact un_none _ _
theorem un_bounds {id : Nat} {n : Nat} {lo hi : Option Int} {c d : Res} (hc : Under id h h2 c d) : Under id h h2 (boundsK n lo hi c) (boundsK n lo hi d) := by
  unfold boundsK
  repeat' first
    | exact hc
    | exact un_none _ _
    | apply un_br
    | split

/-- A slice's rows, then a value that is tagged as they are. -/
theorem two_rows {x : AV} {es : Nat} {c d : List AV → Res} (hp : rdTag x = .pure → ∀ rs, Two h h2 (c rs) (d rs)) (hr : ∀ id, rdTag x = .rd id → ∀ rs, Under id h h2 (c rs) (d rs)) :
    Two h h2 (rowsK h x es c) (rowsK h2 x es d) := by
  unfold rowsK
  cases x <;> simp only [rdTag] at hp hr
  case v y => cases y <;> simp only [] <;> first | exact two_none _ | (split <;> first | exact hp trivial _ | exact two_none _)
  case lst => simp only []; split <;> first | exact hp trivial _ | exact two_none _
  case own id gen row len => exact two_obj fun o => un_br (hr id rfl _) (un_none _ _)
  all_goals exact two_none _

theorem two_set (h : Heap) (id gen : Nat) (c : Obj → Res) (d : Res) (hc : ∀ o, ∀ v h' t, c o = some (v, h', t) → t = .wr id ∧ ∀ j, j ≠ id → h'[j]? = h[j]?) : Two h h2 (objK h id gen c) d := by
  intro v h' t he
  obtain ⟨o, ho, hl, hg, hco⟩ := objK_some he
  obtain ⟨rfl, hb⟩ := hc o v h' t hco
  exact hb

theorem rowsK_any {β : Type} {h : Heap} {x : AV} {es : Nat} {c : List AV → Option β} {r : β} (e : rowsK h x es c = some r) : ∃ rs, c rs = some r := by
  unfold rowsK at e
  split at e
  · split at e
    · exact ⟨_, e⟩
    · cases e
  · obtain ⟨o, _, _, _, e⟩ := objK_some e
    exact ⟨_, (br_yes e).2⟩
  · split at e
    · exact ⟨_, e⟩
    · cases e
  · cases e

theorem two_builtin {P : Program} {b : Builtin} {ts : Array TypeId} {xs : List AV} : Two h h2 (builtinK P b ts xs h fun v h t => some (v, h, t)) (builtinK P b ts xs h2 fun v h t => some (v, h, t)) := by
  unfold builtinK
  split
  all_goals try simp only []
  · split <;> first | exact two_pure _ | exact two_none _
  · split <;> first | exact two_pure _ | exact two_none _
  · split <;> first | exact two_obj (fun o => un_rd _ _) | exact two_none _
  · split <;> first | exact two_pure _ | exact two_none _
  · split <;> first | exact two_pure _ | exact two_none _
  · split
    · split
      · split
        · intro v h' t he
          obtain ⟨o, ho, _, _, he⟩ := objK_some he
          obtain ⟨_, he⟩ := br_yes he
          unfold setK at he
          cases he
          exact fun j hj => List.getElem?_set_ne (Ne.symm hj)
        · exact two_none _
      · exact two_none _
    · exact two_none _
  · split <;> first | exact two_pure _ | exact two_none _
  · split
    · split
      · exact two_none _
      split
      · split
        · split
          · exact two_br (two_br (two_br (two_new _ _ _) (two_none _)) (two_none _)) (two_none _)
          · exact two_none _
        · exact two_none _
      · split
        · exact two_none _
        · split
          · refine two_rows (fun hp rs => ?_) fun id hr rs => ?_
            · rw [hp]; exact two_br (two_pure _) (two_br (two_new _ _ _) (two_none _))
            · rw [hr]; exact un_br (un_rd _ _) (un_br (un_new _ _ _ _) (un_none _ _))
          · rename_i s x id gen len
            intro v h' t he
            obtain ⟨rs, he⟩ := rowsK_any he
            obtain ⟨o, ho, _, _, he⟩ := objK_some he
            obtain ⟨_, he⟩ := br_yes he
            obtain ⟨_, he⟩ := br_yes he
            unfold setK at he
            cases he
            exact fun j hj => List.getElem?_set_ne (Ne.symm hj)
          · exact two_none _
    · exact two_none _
  · exact two_none _

set_option maxHeartbeats 2000000 in
theorem opK_two (X : Ctx) (f : FuncId) (o : Oper) (ρ : Operand → AV) : Two h h2 (opK X f o ρ h fun v h t => some (v, h, t)) (opK X f o ρ h2 fun v h t => some (v, h, t)) := by
  unfold opK
  cases o.op <;> dsimp only <;> repeat' first
    | exact two_pure _
    | exact two_none _
    | exact two_new _ _ _
    | exact two_builtin
    | exact un_rd _ _
    | exact un_none _ _
    | exact un_set _ _ _ _
    | exact two_ifc fun _ => two_ifc fun _ => two_bin fun _ => two_pure _
    | apply two_br
    | apply two_ite
    | apply un_br
    | (refine two_rows (fun hp rs => ?_) fun id hr rs => ?_ <;> first | rw [hp] | rw [hr])
    | (refine two_bounds ?_)
    | (refine un_bounds ?_)
    | (refine two_iterObj fun _ _ _ => ?_)
    | (refine two_obj fun _ => ?_)
    | (refine two_getRow fun _ => ?_)
    | (refine two_shape fun _ => ?_)
    | (refine two_subval fun _ => ?_)
    | (refine two_row fun _ => ?_)
    | (refine two_bytes fun _ => ?_)
    | (refine un_getRow fun _ => ?_)
    | (refine un_shape fun _ => ?_)
    | (refine un_subval fun _ => ?_)
    | (refine un_row fun _ => ?_)
    | (refine un_bytes fun _ => ?_)
    | split
end
end Go.Ab
