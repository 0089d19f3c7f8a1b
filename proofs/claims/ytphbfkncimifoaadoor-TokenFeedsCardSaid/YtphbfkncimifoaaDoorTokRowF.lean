import Derived.Test.YtphbfkncimifoaaDoorTokRow
import Derived.Test.YtphbfkncimifoaaDoorAbRead
set_option linter.unusedVariables false
set_option linter.unusedSimpArgs false
set_option maxRecDepth 100000
namespace Go.Proofs.YtphbfkncimifoaaDoor
/- A reader, read as data. -/
open Go Go.Ab Go.ChangeShapes Go.WideShapes

theorem strs_rows : ∀ {rows : List AV}, (∀ r ∈ rows, ∃ cs, r = rowOf (some false) cs ∧ fitRs [.str] cs) → ∃ ps, rows = svL ps
  | [], _ => ⟨[], rfl⟩
  | r :: rows, h => by
    obtain ⟨ps, rfl⟩ := strs_rows fun x hx => h x (List.mem_cons_of_mem _ hx)
    obtain ⟨cs, rfl, hf⟩ := h r List.mem_cons_self
    simp only [fitRs, fitR] at hf
    obtain ⟨c, cs', rfl, ⟨s, rfl⟩, rfl⟩ := hf
    obtain ⟨l, rfl⟩ := exists_bs s
    exact ⟨l :: ps, rfl⟩
set_option maxRecDepth 100000 in
theorem input_arg {H : Type} {enc : TypeId × Value → H} {w : World} {base : Nat} {spare : Nat → Bool} {held : Bool} {v : Value} {d : DataW H} {ps : List MemPlace} (h : DataW.Trod enc Tryd.prog w base spare held 27 v d ps) :
    ∃ n i, rdV Tryd.prog 4 27 d = TIn.av i n := by
  have f := Read_fit (n := 4) (by kernel_rfl) h
  rw [show rsh Tryd.prog 4 27 = [.lst 1 false [.str], .str, .int .i64, .int .i64] by kernel_rfl] at f
  unfold rdV
  rw [show kindT Tryd.prog 27 = some true by kernel_rfl]
  generalize rdC Tryd.prog 4 27 d = l0 at f
  simp only [fitRs] at f
  obtain ⟨c1, cs1, rfl, q1, c2, cs2, rfl, q2, c3, cs3, rfl, q3, c4, cs4, rfl, q4, rfl⟩ := f
  simp only [fitR] at q1 q2 q3 q4
  obtain ⟨nl, rows, rfl, hn, hr⟩ := q1
  obtain ⟨s, rfl⟩ := q2
  obtain ⟨m, rfl, _⟩ := q3
  obtain ⟨k, rfl, _⟩ := q4
  obtain ⟨ps, rfl⟩ := strs_rows hr
  obtain ⟨t, rfl⟩ := exists_bs s
  exact ⟨nl, ⟨ps, t, m, k⟩, rfl⟩
end Go.Proofs.YtphbfkncimifoaaDoor
