import Derived.Test.YtckbjhmiopjlkaaDoorUHas
import Derived.Test.YtckbjhmiopjlkaaDoorTie
import Derived.Test.YtckbjhmiopjlkaaDoorCards
import Derived.Test.YtckbjhmiopjlkaaDoorAbRow
set_option linter.unusedVariables false
set_option linter.unusedSimpArgs false
set_option maxRecDepth 100000
namespace Go.Proofs.YtckbjhmiopjlkaaDoor
/- What a row of r09 says: reading of slices of ranges and of numbers. -/
open Go Go.Ab Go.ChangeShapes Go.WideShapes

theorem own : ownKnob Tryd.prog.godebug = none := by kernel_rfl
theorem laidOut : laidOutB Tryd.prog = true := by kernel_rfl
theorem under4 : Tryd.prog.underlying 4 = some .bool := by kernel_rfl

theorem leaf_int {k : IntKind} {c : AV} (h : leafIs (.int k) c) : ∃ n, c = AV.v (.int k n) := by
  have h : ∃ n, c = AV.v (.int k n) ∧ (Lit.int k n).wf = true := h
  exact h.imp fun n h => h.1
set_option maxRecDepth 100000 in
/-- A slice of ranges, read as data. -/
theorem ranges {H : Type} {enc : TypeId × Value → H} {w : World} {base : Nat} {spare : Nat → Bool} {held : Bool} {v : Value} {d : DataW H} {ps : List MemPlace} (h : DataW.Trod enc Tryd.prog w base spare held 22 v d ps) :
    ∃ b l, rdSl Tryd.prog 4 25 d = .lst 2 b (rowsOf l) := by
  have hc : Tryd.prog.cellsOf 25 = 2 := by kernel_rfl
  rcases trodSl_fit (n := 4) under22 (by kernel_rfl) h with h1 | ⟨elems, h1, h2⟩
  · exact ⟨true, [], by rw [h1, hc]; rfl⟩
  · rw [h1, hc]
    refine ⟨false, ?_⟩
    clear h1
    induction elems with
    | nil => exact ⟨[], rfl⟩
    | cons x xs ih =>
      obtain ⟨l, hl⟩ := ih fun y hy => h2 y (List.mem_cons_of_mem _ hy)
      have f0 := h2 x List.mem_cons_self
      rw [show (shOf Tryd.prog 4 25).cells = [.int .i64, .int .i64] by kernel_rfl] at f0
      have e : rdAV Tryd.prog 4 25 x = .agg (rdCells Tryd.prog 4 25 x) := by
        unfold rdAV
        rw [show kindT Tryd.prog 25 = some true by kernel_rfl]
        rfl
      obtain ⟨_, _, e1, q1, g1⟩ := fitL_cons f0
      obtain ⟨_, _, rfl, q2, g2⟩ := fitL_cons g1
      obtain rfl := fitL_nil g2
      obtain ⟨a, rfl⟩ := leaf_int q1
      obtain ⟨c, rfl⟩ := leaf_int q2
      refine ⟨(a, c) :: l, ?_⟩
      injection hl with _ _ hl
      show AV.lst 2 false (rdAV Tryd.prog 4 25 x :: xs.map fun x => rdAV Tryd.prog 4 25 x) = _
      rw [hl, e, e1]
      rfl
end Go.Proofs.YtckbjhmiopjlkaaDoor
