import Derived.Test.YtphbfkncimifoaaDoorTokL
import Derived.Test.YtphbfkncimifoaaDoorRows
import Derived.Test.YtphbfkncimifoaaDoorTie
import Derived.Test.YtphbfkncimifoaaDoorCards
import Derived.Test.YtphbfkncimifoaaDoorAbRow
import Derived.Test.YtphbfkncimifoaaDoorAbRead
set_option linter.unusedVariables false
set_option linter.unusedSimpArgs false
set_option maxRecDepth 100000
namespace Go.Proofs.YtphbfkncimifoaaDoor
/- What a row of r23 says: reading of slices of bytes and of cuts. -/
open Go Go.Ab Go.ChangeShapes Go.WideShapes

theorem own : ownKnob Tryd.prog.godebug = none := by kernel_rfl
theorem laidOut : laidOutB Tryd.prog = true := by kernel_rfl
theorem under4 : Tryd.prog.underlying 4 = some .bool := by kernel_rfl
theorem under22 : Tryd.prog.underlying 22 = some (.slice 5) := by kernel_rfl
theorem under23 : Tryd.prog.underlying 23 = some (.slice 29) := by kernel_rfl

theorem leaf_int {k : IntKind} {c : AV} (h : leafIs (.int k) c) : ∃ n, c = AV.v (.int k n) ∧ (Lit.int k n).wf = true := h
theorem wf_u8 {n : Int} (h : (Lit.int .u8 n).wf = true) : 0 ≤ n ∧ n < 256 := by
  simp [Lit.wf, IntKind.min, IntKind.max, IntKind.signed, IntKind.bits] at h
  omega
theorem wf_u16 {n : Int} (h : (Lit.int .u16 n).wf = true) : 0 ≤ n ∧ n < 65536 := by
  simp [Lit.wf, IntKind.min, IntKind.max, IntKind.signed, IntKind.bits] at h
  omega
set_option maxRecDepth 100000 in
/-- A slice of bytes, read as data. -/
theorem bytes_arg {H : Type} {enc : TypeId × Value → H} {w : World} {base : Nat} {spare : Nat → Bool} {held : Bool} {v : Value} {d : DataW H} {ps : List MemPlace} (h : DataW.Trod enc Tryd.prog w base spare held 22 v d ps) :
    ∃ b l, rdSl Tryd.prog 4 5 d = .lst 1 b (uvs l) := by
  have hc : Tryd.prog.cellsOf 5 = 1 := by kernel_rfl
  rcases trodSl_fit (n := 4) under22 (by kernel_rfl) h with h1 | ⟨elems, h1, h2⟩
  · exact ⟨true, [], by rw [h1, hc]; rfl⟩
  · rw [h1, hc]
    refine ⟨false, ?_⟩
    clear h1
    induction elems with
    | nil => exact ⟨[], rfl⟩
    | cons x xs ih =>
      obtain ⟨l, hl⟩ := ih fun y hy => h2 y (List.mem_cons_of_mem _ hy)
      have f0 := h2 x List.mem_cons_self
      rw [show (shOf Tryd.prog 4 5).cells = [.int .u8] by kernel_rfl] at f0
      have e : rdAV Tryd.prog 4 5 x = (rdCells Tryd.prog 4 5 x).getD 0 .dead := by
        unfold rdAV
        rw [show kindT Tryd.prog 5 = some false by kernel_rfl]
        rfl
      obtain ⟨_, _, e1, q1, g1⟩ := fitL_cons f0
      obtain rfl := fitL_nil g1
      obtain ⟨a, rfl, hw⟩ := leaf_int q1
      have ha := wf_u8 hw
      refine ⟨UInt8.ofNat a.toNat :: l, ?_⟩
      injection hl with _ _ hl
      show AV.lst 1 false (rdAV Tryd.prog 4 5 x :: xs.map fun x => rdAV Tryd.prog 4 5 x) = _
      rw [hl, e, e1]
      have : (((UInt8.ofNat a.toNat).toNat : Nat) : Int) = a := by simp only [UInt8.toNat_ofNat']; omega
      rw [show uvs (UInt8.ofNat a.toNat :: l) = uv (((UInt8.ofNat a.toNat).toNat : Nat) : Int) :: uvs l from rfl, this]
      rfl
set_option maxRecDepth 100000 in
/-- A slice of cuts, read as data. -/
theorem cuts_arg {H : Type} {enc : TypeId × Value → H} {w : World} {base : Nat} {spare : Nat → Bool} {held : Bool} {v : Value} {d : DataW H} {ps : List MemPlace} (h : DataW.Trod enc Tryd.prog w base spare held 23 v d ps) :
    ∃ (b : Bool) (l : List Nat), rdSl Tryd.prog 4 29 d = .lst 1 b (l.map cutAV) ∧ ∀ c ∈ l, c < 65536 := by
  have hc : Tryd.prog.cellsOf 29 = 1 := by kernel_rfl
  rcases trodSl_fit (n := 4) under23 (by kernel_rfl) h with h1 | ⟨elems, h1, h2⟩
  · exact ⟨true, [], by rw [h1, hc]; rfl, by simp⟩
  · rw [h1, hc]
    refine ⟨false, ?_⟩
    clear h1
    induction elems with
    | nil => exact ⟨[], rfl, by simp⟩
    | cons x xs ih =>
      obtain ⟨l, hl, hr⟩ := ih fun y hy => h2 y (List.mem_cons_of_mem _ hy)
      have f0 := h2 x List.mem_cons_self
      rw [show (shOf Tryd.prog 4 29).cells = [.int .u16] by kernel_rfl] at f0
      have e : rdAV Tryd.prog 4 29 x = (rdCells Tryd.prog 4 29 x).getD 0 .dead := by
        unfold rdAV
        rw [show kindT Tryd.prog 29 = some false by kernel_rfl]
        rfl
      obtain ⟨_, _, e1, q1, g1⟩ := fitL_cons f0
      obtain rfl := fitL_nil g1
      obtain ⟨a, rfl, hw⟩ := leaf_int q1
      have ha := wf_u16 hw
      refine ⟨a.toNat :: l, ?_, fun c hc => ?_⟩
      · injection hl with _ _ hl
        show AV.lst 1 false (rdAV Tryd.prog 4 29 x :: xs.map fun x => rdAV Tryd.prog 4 29 x) = _
        rw [hl, e, e1]
        have : ((a.toNat : Nat) : Int) = a := by omega
        simp [cutAV, this]
      · rcases List.mem_cons.1 hc with rfl | hc
        · omega
        · exact hr c hc
theorem globsOf {laid : List (String × DataW Unit)} {W : World} (h : laidMet Tryd.prog laid W) (m1 : ("strconv.ErrRange", Rows.laid_strconv_ErrRange) ∈ laid) (m2 : ("strconv.ErrSyntax", Rows.laid_strconv_ErrSyntax) ∈ laid) (g : Nat) (x : AV) (hx : X.G g = some x) : GlobOk (St.init W) g x := by
  have hx : gX g = some x := hx
  unfold gX at hx
  split at hx
  · rename_i p hp
    have hm := List.mem_of_find?_eq_some hp
    have hg := List.find?_some hp
    cases hx
    obtain rfl := Nat.eq_of_beq_eq_true hg
    simp only [gL, List.mem_cons, List.not_mem_nil, or_false] at hm
    rcases hm with rfl | rfl
    · exact glob_junk h m2 (g := 1) (t := 71) (by kernel_rfl) (by kernel_rfl) (by kernel_rfl)
    · exact glob_junk h m1 (g := 2) (t := 71) (by kernel_rfl) (by kernel_rfl) (by kernel_rfl)
  · cases hx
/- A reader, read as data. -/
open Go Go.Ab Go.ChangeShapes Go.WideShapes

theorem strs_rows : ∀ {rows : List AV}, (∀ r ∈ rows, ∃ cs, r = rowOf (some false) cs ∧ fitRs [.str] cs) → ∃ ps, rows = svL ps
  | [], _ => ⟨[], rfl⟩
  | r :: rows, h => by
    obtain ⟨ps, rfl⟩ := strs_rows fun x hx => h x (List.mem_cons_of_mem _ hx)
    obtain ⟨cs, rfl, hf⟩ := h r List.mem_cons_self
    simp only [fitRs, fitR] at hf
    obtain ⟨c, cs', rfl, ⟨s, rfl⟩, rfl⟩ := hf
    obtain ⟨l, rfl⟩ := exists_bs s
    exact ⟨l :: ps, rfl⟩
set_option maxRecDepth 100000 in
theorem input_arg {H : Type} {enc : TypeId × Value → H} {w : World} {base : Nat} {spare : Nat → Bool} {held : Bool} {v : Value} {d : DataW H} {ps : List MemPlace} (h : DataW.Trod enc Tryd.prog w base spare held 27 v d ps) :
    ∃ n i, rdV Tryd.prog 4 27 d = TIn.av i n := by
  have f := Read_fit (n := 4) (by kernel_rfl) h
  rw [show rsh Tryd.prog 4 27 = [.lst 1 false [.str], .str, .int .i64, .int .i64] by kernel_rfl] at f
  unfold rdV
  rw [show kindT Tryd.prog 27 = some true by kernel_rfl]
  generalize rdC Tryd.prog 4 27 d = l0 at f
  simp only [fitRs] at f
  obtain ⟨c1, cs1, rfl, q1, c2, cs2, rfl, q2, c3, cs3, rfl, q3, c4, cs4, rfl, q4, rfl⟩ := f
  simp only [fitR] at q1 q2 q3 q4
  obtain ⟨nl, rows, rfl, hn, hr⟩ := q1
  obtain ⟨s, rfl⟩ := q2
  obtain ⟨m, rfl, _⟩ := q3
  obtain ⟨k, rfl, _⟩ := q4
  obtain ⟨ps, rfl⟩ := strs_rows hr
  obtain ⟨t, rfl⟩ := exists_bs s
  exact ⟨nl, ⟨ps, t, m, k⟩, rfl⟩
/- A text, words and literals, read as data. -/
open Go Go.Ab Go.ChangeShapes Go.WideShapes

set_option maxRecDepth 100000 in
theorem str_arg {H : Type} {enc : TypeId × Value → H} {w : World} {base : Nat} {spare : Nat → Bool} {held : Bool} {v : Value} {d : DataW H} {ps : List MemPlace} (h : DataW.Trod enc Tryd.prog w base spare held 9 v d ps) :
    ∃ s, rdV Tryd.prog 4 9 d = sv (bs s) := by
  have f := Read_fit (n := 4) (by kernel_rfl) h
  rw [show rsh Tryd.prog 4 9 = [.str] by kernel_rfl] at f
  unfold rdV
  rw [show kindT Tryd.prog 9 = some false by kernel_rfl]
  generalize rdC Tryd.prog 4 9 d = l0 at f
  simp only [fitRs] at f
  obtain ⟨c1, cs1, rfl, q1, rfl⟩ := f
  simp only [fitR] at q1
  obtain ⟨s, rfl⟩ := q1
  obtain ⟨t, rfl⟩ := exists_bs s
  exact ⟨t, rfl⟩
set_option maxRecDepth 100000 in
theorem words_arg {H : Type} {enc : TypeId × Value → H} {w : World} {base : Nat} {spare : Nat → Bool} {held : Bool} {v : Value} {d : DataW H} {ps : List MemPlace} (h : DataW.Trod enc Tryd.prog w base spare held 25 v d ps) :
    ∃ n ws, rdV Tryd.prog 4 25 d = .lst 1 n (svL ws) := by
  have f := Read_fit (n := 4) (by kernel_rfl) h
  rw [show rsh Tryd.prog 4 25 = [.lst 1 false [.str]] by kernel_rfl] at f
  unfold rdV
  rw [show kindT Tryd.prog 25 = some false by kernel_rfl]
  generalize rdC Tryd.prog 4 25 d = l0 at f
  simp only [fitRs] at f
  obtain ⟨c1, cs1, rfl, q1, rfl⟩ := f
  simp only [fitR] at q1
  obtain ⟨nl, rows, rfl, _, hr⟩ := q1
  obtain ⟨ps, rfl⟩ := strs_rows hr
  exact ⟨nl, ps, rfl⟩
abbrev litAV (x : Bool × List UInt8) : AV := .lst 1 x.1 (uvs x.2)
theorem u8_rows : ∀ {rows : List AV}, (∀ r ∈ rows, ∃ cs, r = rowOf (some false) cs ∧ fitRs [.int .u8] cs) → ∃ l, rows = uvs l
  | [], _ => ⟨[], rfl⟩
  | r :: rows, h => by
    obtain ⟨ps, rfl⟩ := u8_rows fun x hx => h x (List.mem_cons_of_mem _ hx)
    obtain ⟨cs, rfl, hf⟩ := h r List.mem_cons_self
    simp only [fitRs, fitR] at hf
    obtain ⟨c, cs', rfl, ⟨a, rfl, hw⟩, rfl⟩ := hf
    have ha := wf_u8 hw
    refine ⟨UInt8.ofNat a.toNat :: ps, ?_⟩
    have : (((UInt8.ofNat a.toNat).toNat : Nat) : Int) = a := by simp only [UInt8.toNat_ofNat']; omega
    rw [show uvs (UInt8.ofNat a.toNat :: ps) = uv (((UInt8.ofNat a.toNat).toNat : Nat) : Int) :: uvs ps from rfl, this]
    rfl
theorem lit_rows : ∀ {rows : List AV}, (∀ r ∈ rows, ∃ cs, r = rowOf (some false) cs ∧ fitRs [.lst 1 false [.int .u8]] cs) → ∃ l : List (Bool × List UInt8), rows = l.map litAV
  | [], _ => ⟨[], rfl⟩
  | r :: rows, h => by
    obtain ⟨ps, rfl⟩ := lit_rows fun x hx => h x (List.mem_cons_of_mem _ hx)
    obtain ⟨cs, rfl, hf⟩ := h r List.mem_cons_self
    simp only [fitRs, fitR] at hf
    obtain ⟨c, cs', rfl, ⟨nl, rs, rfl, _, hr⟩, rfl⟩ := hf
    obtain ⟨l, rfl⟩ := u8_rows (rows := rs) (by simpa only [fitRs, fitR] using hr)
    exact ⟨(nl, l) :: ps, rfl⟩
set_option maxRecDepth 100000 in
theorem lits_arg {H : Type} {enc : TypeId × Value → H} {w : World} {base : Nat} {spare : Nat → Bool} {held : Bool} {v : Value} {d : DataW H} {ps : List MemPlace} (h : DataW.Trod enc Tryd.prog w base spare held 35 v d ps) :
    ∃ (n : Bool) (ls : List (Bool × List UInt8)), rdV Tryd.prog 4 35 d = .lst 1 n (ls.map litAV) := by
  have f := Read_fit (n := 4) (by kernel_rfl) h
  rw [show rsh Tryd.prog 4 35 = [.lst 1 false [.lst 1 false [.int .u8]]] by kernel_rfl] at f
  unfold rdV
  rw [show kindT Tryd.prog 35 = some false by kernel_rfl]
  generalize rdC Tryd.prog 4 35 d = l0 at f
  simp only [fitRs] at f
  obtain ⟨c1, cs1, rfl, q1, rfl⟩ := f
  simp only [fitR] at q1
  obtain ⟨nl, rows, rfl, _, hr⟩ := q1
  obtain ⟨ps, rfl⟩ := lit_rows (rows := rows) (by simpa only [fitRs, fitR] using hr)
  exact ⟨nl, ps, rfl⟩
end Go.Proofs.YtphbfkncimifoaaDoor
