/- What an abstract state says of the model's world. -/
import Derived.Test.YtkkbdebmilagoaaGreatDoorAbRun
import Derived.Laws.AppendOwn
import Derived.Laws.Cells
set_option linter.unusedSimpArgs false
set_option linter.unusedVariables false
namespace Go.Ab
open Go

structure St where
  w : World
  H : Heap
  loc : Nat → Nat
  mask : Nat → Prop

def St.Own (s : St) (b : Nat) : Prop := ∃ i o, s.H[i]? = some o ∧ o.live = true ∧ s.loc i = b
def St.Priv (s : St) (b : Nat) : Prop := s.Own b ∨ s.mask b

def one (v : Value) : Prop := v.oneCell' = true

/-- How many elements a reference to a slice of an object has. -/
def ownLen (o : Obj) (row : Nat) (len : Option Nat) : Nat := lenOfOwn o row len

/-- An address within a block. -/
def ad (b off : Nat) : Addr := ⟨b, off, none⟩

/-- A block's frozen cells, if it has some, lie behind its end. -/
def FrOk (cur : Array Value) (fr : Nat × Nat) : Prop := fr = (0, 0) ∨ cur.size ≤ fr.1
theorem FrOk.size {cur cur' : Array Value} {fr : Nat × Nat} (h : FrOk cur fr) (hs : cur'.size = cur.size) : FrOk cur' fr := by
  rcases h with h | h
  · exact .inl h
  · exact .inr (by omega)
theorem FrOk.zero {cur : Array Value} : FrOk cur (0, 0) := .inl rfl

inductive Rel (s : St) : AV → Value → Prop
  | v (x : Value) (h : isScalar x = true) : Rel s (.v x) x
  | nil (es : Nat) : Rel s (.lst es true []) (.slice none 0 0)
  | empty (es : Nat) (a : Addr) (cap : Nat) : Rel s (.lst es false []) (.slice (some a) 0 cap)
  | lst (es : Nat) (rows : List AV) (b off cap : Nat) (vals : Nat → Nat → Value)
      (hcap : rows.length ≤ cap)
      (hpriv : rows ≠ [] → b < s.w.heap.size ∧ ¬ s.Priv b)
      (hes : ∀ r ∈ rows, r.cells.length = es)
      (hfree : ∀ r ∈ rows, refFree r = true)
      (hcell : ∀ r ∈ rows, ∀ c ∈ r.cells, isCell c = true)
      (hc : ∀ i j, i < rows.length → j < es → s.w.cell? (ad b (off + i * es + j)) = some (vals i j))
      (hr : ∀ (i j : Nat) (x y : AV), rows[i]? = some x → x.cells[j]? = some y → Rel s y (vals i j)) :
      Rel s (.lst es false rows) (.slice (some (ad b off)) rows.length cap)
  | own (i g row : Nat) (len : Option Nat) (o : Obj) (cur : Array Value) (ty : TypeId) (off cap : Nat)
      (ho : s.H[i]? = some o) (hl : o.live = true) (hg : o.gen = g) (hbox : o.box = false)
      (hn : row + lenOfOwn o row len ≤ o.rows.length) (hcap : lenOfOwn o row len ≤ cap)
      (fr : Nat × Nat) (hfr : FrOk cur fr) (hb : s.w.heap[s.loc i]? = some (.cells cur ty fr))
      (hoff : cap ≠ 0 → off = row * o.es ∧ (row + cap) * o.es = cur.size) :
      Rel s (.own i g row len) (.slice (some (ad (s.loc i) off)) (lenOfOwn o row len) cap)
  | ownStale (i g row : Nat) (len : Option Nat) (o : Obj) (a : Addr) (n cap : Nat)
      (ho : s.H[i]? = some o) (hs : o.live = false ∨ g < o.gen) : Rel s (.own i g row len) (.slice (some a) n cap)
  | ptr (i g row off : Nat) (o : Obj)
      (ho : s.H[i]? = some o) (hl : o.live = true) (hg : o.gen = g) (hrow : row < o.rows.length) :
      Rel s (.ptr i g row off) (.pointer (some (ad (s.loc i) (row * o.es + off))))
  | ptrStale (i g row off : Nat) (o : Obj) (a : Addr)
      (ho : s.H[i]? = some o) (hs : o.live = false ∨ g < o.gen) : Rel s (.ptr i g row off) (.pointer (some a))
  | pl (row : AV) (off b base : Nat) (vals : Nat → Value)
      (hsz : b < s.w.heap.size) (hpriv : ¬ s.Priv b) (hfree : refFree row = true)
      (hcell : ∀ c ∈ row.cells, isCell c = true)
      (hc : ∀ j, j < row.cells.length → s.w.cell? (ad b (base + j)) = some (vals j))
      (hr : ∀ (j : Nat) (y : AV), row.cells[j]? = some y → Rel s y (vals j)) :
      Rel s (.pl row off) (.pointer (some (ad b (base + off))))
  | fn (f : Fn) (first cap : List AV) (fs cs : Array Value)
      (h1 : fs.size = first.length) (h2 : cs.size = cap.length)
      (hf : ∀ (j : Nat) (x : AV) (y : Value), first[j]? = some x → fs[j]? = some y → Rel s x y)
      (hc : ∀ (j : Nat) (x : AV) (y : Value), cap[j]? = some x → cs[j]? = some y → Rel s x y) : Rel s (.fn f first cap) (.func f fs cs)
  | iface (t : TypeId) (x : AV) (v : Value) (h : Rel s x v) : Rel s (.iface t x) (.iface t v)
  | agg (cs : List AV) (vs : Array Value) (h1 : vs.size = cs.length)
      (hcell : ∀ c ∈ cs, isCell c = true)
      (h : ∀ (j : Nat) (x : AV) (y : Value), cs[j]? = some x → vs[j]? = some y → Rel s x y) : Rel s (.agg cs) (.agg vs)
  | tup (cs : List AV) (vs : Array Value) (h1 : vs.size = cs.length)
      (h : ∀ (j : Nat) (x : AV) (y : Value), cs[j]? = some x → vs[j]? = some y → Rel s x y) : Rel s (.tup cs) (.tuple vs)
  | junk (v : Value) (h : one v) : Rel s .junk v
  | dead (v : Value) : Rel s .dead v

/-- What is known of a live object. -/
structure ObjOk (s : St) (i : Nat) (o : Obj) : Prop where
  block : o.it = none → ∃ cur ty fr, FrOk cur fr ∧ s.w.heap[s.loc i]? = some (.cells cur ty fr) ∧ o.rows.length * o.es ≤ cur.size ∧
    (o.box = false → ty = o.ty ∧ ∃ cap, cur.size = cap * o.es ∧ o.rows.length ≤ cap) ∧
    ∀ (r c : Nat) (x y : AV), o.rows[r]? = some x → x.cells[c]? = some y → ∃ v, cur[r * o.es + c]? = some v ∧ Rel s y v
  es : ∀ r ∈ o.rows, r.cells.length = o.es
  cell : ∀ r ∈ o.rows, ∀ c ∈ r.cells, isCell c = true
  free : o.box = false → ∀ r ∈ o.rows, refFree r = true
  mask : ¬ s.mask (s.loc i)
  iter : ∀ p, o.it = some p → o.box = true ∧ s.w.heap[s.loc i]? = some (.stringIter p.1 p.2)

/-- A slice's object is no range over a string. -/
theorem ObjOk.plain {s : St} {i : Nat} {o : Obj} (hk : ObjOk s i o) (h : o.box = false) : o.it = none := by
  cases hi : o.it with
  | none => rfl
  | some p => have := (hk.iter p hi).1; rw [h] at this; cases this

/-- What is known of a listed variable: it reads so, and its block is no longer. -/
structure GlobOk (s : St) (g : Nat) (x : AV) : Prop where
  rel : Rel s (.pl x 0) (.pointer (some (ad g 0)))
  all : ∃ cur ty fr, s.w.heap[g]? = some (.cells cur ty fr) ∧ cur.size = x.cells.length

structure Ok (X : Ctx) (s : St) : Prop where
  inj : ∀ i j oi oj, s.H[i]? = some oi → s.H[j]? = some oj → oi.live = true → oj.live = true → s.loc i = s.loc j → i = j
  obj : ∀ i o, s.H[i]? = some o → o.live = true → ObjOk s i o
  glob : ∀ g x, X.G g = some x → GlobOk s g x
  maskLt : ∀ b, s.mask b → b < s.w.heap.size

/-- Nothing is said to the world outside. -/
def SameIo (w w' : World) : Prop := w'.os = w.os ∧ w'.output = w.output

/-- A later state, as a holder of references sees it. -/
structure Step (s s' : St) : Prop where
  io : SameIo s.w s'.w
  mask : s'.mask = s.mask
  size : s.w.heap.size ≤ s'.w.heap.size
  keep : ∀ b, b < s.w.heap.size → ¬ s.Own b → s'.w.heap[b]? = s.w.heap[b]?
  priv : ∀ b, b < s.w.heap.size → ¬ s.Own b → ¬ s'.Own b
  ids : ∀ (i : Nat) (o : Obj), s.H[i]? = some o → ∃ o', s'.H[i]? = some o' ∧ (o.live = false → o'.live = false) ∧ (o'.live = true → o.gen ≤ o'.gen) ∧
    (o'.live = true → o'.gen = o.gen → s'.loc i = s.loc i ∧ o'.rows.length = o.rows.length ∧ o'.es = o.es ∧ o'.box = o.box ∧
      ∀ cur ty fr, s.w.heap[s.loc i]? = some (.cells cur ty fr) → ∃ cur', s'.w.heap[s'.loc i]? = some (.cells cur' ty fr) ∧ cur'.size = cur.size)

theorem cell_block {w : World} {b off : Nat} {v : Value} (h : w.cell? (ad b off) = some v) : b < w.heap.size := World.block_lt_of_cell? w _ h

theorem cell_same {w w' : World} {b off : Nat} (h : w'.heap[b]? = w.heap[b]?) : w'.cell? (ad b off) = w.cell? (ad b off) := World.cell?_of_block (a := ad b off) h

theorem Step.refl (s : St) : Step s s :=
  ⟨⟨rfl, rfl⟩, rfl, Nat.le_refl _, fun _ _ _ => rfl, fun _ _ h => h, fun _ o ho => ⟨o, ho, fun h => h, fun _ => Nat.le_refl _, fun _ _ => ⟨rfl, rfl, rfl, rfl, fun cur _ _ h => ⟨cur, h, rfl⟩⟩⟩⟩

theorem Step.priv' {s s' : St} (h : Step s s') {b : Nat} (hb : b < s.w.heap.size) (hp : ¬ s.Priv b) : ¬ s'.Priv b := by
  rintro (h1 | h1)
  · exact h.priv b hb (fun h2 => hp (.inl h2)) h1
  · rw [h.mask] at h1; exact hp (.inr h1)

theorem Step.cell {s s' : St} (h : Step s s') {b off : Nat} {v : Value} (hc : s.w.cell? (ad b off) = some v) (hp : ¬ s.Priv b) :
    s'.w.cell? (ad b off) = some v := by
  have hb := cell_block hc
  rw [cell_same (h.keep b hb fun h2 => hp (.inl h2))]
  exact hc

theorem lenOfOwn_eq {o o' : Obj} (h : o'.rows.length = o.rows.length) (row : Nat) (len : Option Nat) : lenOfOwn o' row len = lenOfOwn o row len := by
  cases len with
  | some n => rfl
  | none => cases row <;> simp [lenOfOwn, h]

theorem Rel.mono {s s' : St} (h : Step s s') {x : AV} {v : Value} (hr : Rel s x v) : Rel s' x v := by
  induction hr with
  | v x hx => exact .v x hx
  | nil es => exact .nil es
  | empty es a cap => exact .empty es a cap
  | lst es rows b off cap vals hcap hpriv hes hfree hcell hc _ ih =>
    refine .lst es rows b off cap vals hcap ?_ hes hfree hcell ?_ ih
    · intro hne
      exact ⟨Nat.lt_of_lt_of_le (hpriv hne).1 h.size, h.priv' (hpriv hne).1 (hpriv hne).2⟩
    · intro i j hi hj
      have hne : rows ≠ [] := fun e => by simp [e] at hi
      exact h.cell (hc i j hi hj) (hpriv hne).2
  | own i g row len o cur ty off cap ho hl hg hbox hn hcap fr hfr hb hoff =>
    obtain ⟨o', ho', h1, h2, h3⟩ := h.ids i o ho
    by_cases hl' : o'.live = true
    · by_cases hg' : o'.gen = o.gen
      · obtain ⟨e1, e2, e3, e4, e5⟩ := h3 hl' hg'
        obtain ⟨cur', hb', hsz⟩ := e5 cur ty fr hb
        rw [← e1, ← lenOfOwn_eq e2 row len]
        refine .own i g row len o' cur' ty off cap ho' hl' (hg'.trans hg) (e4.trans hbox) ?_ ?_ fr (hfr.size hsz) hb' ?_
        · rw [lenOfOwn_eq e2, e2]; exact hn
        · rw [lenOfOwn_eq e2]; exact hcap
        · intro hne; rw [e3, hsz]; exact hoff hne
      · exact .ownStale i g row len o' _ _ _ ho' (.inr (by have := h2 hl'; omega))
    · exact .ownStale i g row len o' _ _ _ ho' (.inl (by simpa using hl'))
  | ownStale i g row len o a n cap ho hs =>
    obtain ⟨o', ho', h1, h2, h3⟩ := h.ids i o ho
    refine .ownStale i g row len o' a n cap ho' ?_
    rcases hs with hs | hs
    · exact .inl (h1 hs)
    · by_cases hl' : o'.live = true
      · exact .inr (Nat.lt_of_lt_of_le hs (h2 hl'))
      · exact .inl (by simpa using hl')
  | ptr i g row off o ho hl hg hrow =>
    obtain ⟨o', ho', h1, h2, h3⟩ := h.ids i o ho
    by_cases hl' : o'.live = true
    · by_cases hg' : o'.gen = o.gen
      · obtain ⟨e1, e2, e3, e4, e5⟩ := h3 hl' hg'
        rw [← e1, ← e3]
        exact .ptr i g row off o' ho' hl' (hg'.trans hg) (by rw [e2]; exact hrow)
      · exact .ptrStale i g row off o' _ ho' (.inr (by have := h2 hl'; omega))
    · exact .ptrStale i g row off o' _ ho' (.inl (by simpa using hl'))
  | ptrStale i g row off o a ho hs =>
    obtain ⟨o', ho', h1, h2, h3⟩ := h.ids i o ho
    refine .ptrStale i g row off o' a ho' ?_
    rcases hs with hs | hs
    · exact .inl (h1 hs)
    · by_cases hl' : o'.live = true
      · exact .inr (Nat.lt_of_lt_of_le hs (h2 hl'))
      · exact .inl (by simpa using hl')
  | pl row off b base vals hsz hpriv hfree hcell hc _ ih =>
    exact .pl row off b base vals (Nat.lt_of_lt_of_le hsz h.size) (h.priv' hsz hpriv) hfree hcell (fun j hj => h.cell (hc j hj) hpriv) ih
  | fn f first cap fs cs h1 h2 _ _ ih1 ih2 => exact .fn f first cap fs cs h1 h2 ih1 ih2
  | iface t x v _ ih => exact .iface t x v ih
  | agg cs vs h1 hcell _ ih => exact .agg cs vs h1 hcell ih
  | tup cs vs h1 _ ih => exact .tup cs vs h1 ih
  | junk v hv => exact .junk v hv
  | dead v => exact .dead v

theorem Step.trans {s s' s'' : St} (h : Step s s') (h' : Step s' s'') : Step s s'' where
  io := ⟨h'.io.1.trans h.io.1, h'.io.2.trans h.io.2⟩
  mask := h'.mask.trans h.mask
  size := Nat.le_trans h.size h'.size
  keep b hb ho := (h'.keep b (Nat.lt_of_lt_of_le hb h.size) (h.priv b hb ho)).trans (h.keep b hb ho)
  priv b hb ho := h'.priv b (Nat.lt_of_lt_of_le hb h.size) (h.priv b hb ho)
  ids i o ho := by
    obtain ⟨o', ho', h1, h2, h3⟩ := h.ids i o ho
    obtain ⟨o'', ho'', k1, k2, k3⟩ := h'.ids i o' ho'
    have hl : o''.live = true → o'.live = true := fun hh => by
      cases hx : o'.live with
      | true => rfl
      | false => rw [k1 hx] at hh; cases hh
    refine ⟨o'', ho'', fun hh => k1 (h1 hh), fun hh => Nat.le_trans (h2 (hl hh)) (k2 hh), fun hh hg => ?_⟩
    have a1 := h2 (hl hh)
    have a2 := k2 hh
    obtain ⟨e1, e2, e3, e4, e5⟩ := h3 (hl hh) (by omega)
    obtain ⟨f1, f2, f3, f4, f5⟩ := k3 hh (by omega)
    refine ⟨f1.trans e1, f2.trans e2, f3.trans e3, f4.trans e4, fun cur ty fr hc => ?_⟩
    obtain ⟨cur', hc', hz⟩ := e5 cur ty fr hc
    obtain ⟨cur'', hc'', hz'⟩ := f5 cur' ty fr hc'
    exact ⟨cur'', hc'', hz'.trans hz⟩

theorem ObjOk.mono {s s' : St} (h : Step s s') {i : Nat} {o : Obj} (hk : ObjOk s i o) (hloc : s'.loc i = s.loc i)
    (hb : s'.w.heap[s.loc i]? = s.w.heap[s.loc i]?) : ObjOk s' i o where
  block := fun hit => by
    obtain ⟨cur, ty, fr, hfr, h1, h2, h3, h4⟩ := hk.block hit
    refine ⟨cur, ty, fr, hfr, by rw [hloc, hb]; exact h1, h2, h3, fun r c x y hx hy => ?_⟩
    obtain ⟨v, hv, hr⟩ := h4 r c x y hx hy
    exact ⟨v, hv, hr.mono h⟩
  es := hk.es
  cell := hk.cell
  free := hk.free
  mask := by rw [hloc, h.mask]; exact hk.mask
  iter := fun p hp => ⟨(hk.iter p hp).1, by rw [hloc, hb]; exact (hk.iter p hp).2⟩

theorem ObjOk.lt {s : St} {i : Nat} {o : Obj} (hk : ObjOk s i o) : s.loc i < s.w.heap.size := by
  cases hi : o.it with
  | none =>
    obtain ⟨cur, ty, fr, _, h1, _⟩ := hk.block hi
    exact (Array.getElem?_eq_some_iff.1 h1).1
  | some p => exact (Array.getElem?_eq_some_iff.1 (hk.iter p hi).2).1

theorem GlobOk.priv {s : St} {g : Nat} {x : AV} (h : GlobOk s g x) : ¬ s.Priv g := by
  obtain ⟨hr, _⟩ := h
  generalize hv : Value.pointer (some (ad g 0)) = v at hr
  cases hr with
  | pl row off b base vals hsz hpriv hfree hcell hc hr =>
    injection hv with hv
    injection hv with hv
    injection hv with hv
    subst hv
    exact hpriv
theorem GlobOk.mono {s s' : St} (h : Step s s') {g : Nat} {x : AV} (hg : GlobOk s g x) : GlobOk s' g x := by
  refine ⟨hg.rel.mono h, ?_⟩
  obtain ⟨cur, ty, fr, hc, hn⟩ := hg.all
  exact ⟨cur, ty, fr, by rw [h.keep g (Array.getElem?_eq_some_iff.1 hc).1 fun h2 => hg.priv (.inl h2)]; exact hc, hn⟩
theorem GlobOk.here {s s' : St} {g : Nat} {x : AV} (hg : GlobOk s g x) (hw : s'.w = s.w) (hr : Rel s (.pl x 0) (.pointer (some (ad g 0))) → Rel s' (.pl x 0) (.pointer (some (ad g 0)))) : GlobOk s' g x :=
  ⟨hr hg.rel, by rw [hw]; exact hg.all⟩
/-- The world has moved on, but its memory has not. -/
theorem still {X : Ctx} {s : St} (hok : Ok X s) {w' : World} (hw : w'.heap = s.w.heap) (hio : SameIo s.w w' := by exact ⟨rfl, rfl⟩) : Step s { s with w := w' } ∧ Ok X { s with w := w' } := by
  have hst : Step s { s with w := w' } :=
    ⟨hio, rfl, by simp [hw], fun b _ _ => by simp [hw], fun _ _ h => h, fun i o ho => ⟨o, ho, fun h => h, fun _ => Nat.le_refl _,
      fun _ _ => ⟨rfl, rfl, rfl, rfl, fun cur ty _ h => ⟨cur, by simpa [hw] using h, rfl⟩⟩⟩⟩
  refine ⟨hst, hok.inj, fun i o ho hl => (hok.obj i o ho hl).mono hst rfl (by simp [hw]), fun g x hg => (hok.glob g x hg).mono hst, fun b hb => ?_⟩
  simpa [hw] using hok.maskLt b hb

/-- A block more. -/
theorem push {X : Ctx} {s : St} (hok : Ok X s) (b : Go.Obj) {w' : World} (hw : w'.heap = s.w.heap.push b) (hio : SameIo s.w w' := by exact ⟨rfl, rfl⟩) :
    Step s { s with w := w' } ∧ Ok X { s with w := w' } := by
  have hget : ∀ k, k < s.w.heap.size → w'.heap[k]? = s.w.heap[k]? := fun k hk => by
    rw [hw, Array.getElem?_push_lt hk, Array.getElem?_eq_getElem hk]
  have hst : Step s { s with w := w' } :=
    ⟨hio, rfl, by simp [hw], fun k hk _ => hget k hk, fun _ _ h => h, fun i o ho => ⟨o, ho, fun h => h, fun _ => Nat.le_refl _,
      fun _ _ => ⟨rfl, rfl, rfl, rfl, fun cur ty _ h => ⟨cur, by
        have := (Array.getElem?_eq_some_iff.1 h).1
        simp only []; rw [hget _ this]; exact h, rfl⟩⟩⟩⟩
  refine ⟨hst, hok.inj, fun i o ho hl => ?_, fun g x hg => (hok.glob g x hg).mono hst, fun k hk => ?_⟩
  · have hk := hok.obj i o ho hl
    exact hk.mono hst rfl (hget _ hk.lt)
  · have := hok.maskLt k hk
    simp [hw]; omega

/-- A block more, and an object for it. -/
theorem pushAny {X : Ctx} {s : St} (hok : Ok X s) (o : Obj) (nb : Go.Obj) {w' : World} (hw : w'.heap = s.w.heap.push nb)
    (hob : ∀ s' : St, Step s s' → s'.w = w' → s'.loc s.H.length = s.w.heap.size → s'.mask = s.mask → ObjOk s' s.H.length o) (hio : SameIo s.w w' := by exact ⟨rfl, rfl⟩) :
    ∃ s' : St, s'.w = w' ∧ s'.H = s.H ++ [o] ∧ s'.loc s.H.length = s.w.heap.size ∧ Step s s' ∧ Ok X s' := by
  let s' : St := { w := w', H := s.H ++ [o], loc := fun j => if j = s.H.length then s.w.heap.size else s.loc j, mask := s.mask }
  have hget : ∀ k, k < s.w.heap.size → w'.heap[k]? = s.w.heap[k]? := fun k hk => by
    rw [hw, Array.getElem?_push_lt hk, Array.getElem?_eq_getElem hk]
  have hloc : ∀ (i : Nat) (oi : Obj), s.H[i]? = some oi → s'.loc i = s.loc i := fun i oi h => by
    have := (List.getElem?_eq_some_iff.1 h).1
    simp [s']; omega
  have hH : ∀ (i : Nat) (oi : Obj), s.H[i]? = some oi → s'.H[i]? = some oi := fun i oi h => by
    have := (List.getElem?_eq_some_iff.1 h).1
    simp [s', List.getElem?_append_left this, h]
  have hH' : ∀ (i : Nat) (oi : Obj), s'.H[i]? = some oi → s.H[i]? = some oi ∨ (i = s.H.length ∧ oi = o) := fun i oi h => by
    rcases Nat.lt_or_ge i s.H.length with hi | hi
    · left; simpa [s', List.getElem?_append_left hi] using h
    · right
      simp only [s', List.getElem?_append_right hi] at h
      have : i - s.H.length = 0 := by
        have := (List.getElem?_eq_some_iff.1 h).1
        simp at this; omega
      rw [this] at h
      simp at h
      exact ⟨by omega, h.symm⟩
  have hown : ∀ k, k < s.w.heap.size → ¬ s.Own k → ¬ s'.Own k := by
    rintro k hk hn ⟨i, oi, hi, hl, hb⟩
    rcases hH' i oi hi with h | ⟨h, h'⟩
    · exact hn ⟨i, oi, h, hl, by rw [← hloc i oi h]; exact hb⟩
    · subst h
      simp [s'] at hb
      omega
  have hst : Step s s' := by
    refine ⟨hio, rfl, by simp [s', hw], fun k hk _ => hget k hk, hown, fun i oi hi => ⟨oi, hH i oi hi, fun h => h, fun _ => Nat.le_refl _, fun _ _ => ⟨hloc i oi hi, rfl, rfl, rfl, fun c t _ h => ⟨c, ?_, rfl⟩⟩⟩⟩
    rw [hloc i oi hi]
    have := (Array.getElem?_eq_some_iff.1 h).1
    simp only [s']; rw [hget _ this]; exact h
  refine ⟨s', rfl, rfl, by simp [s'], hst, ?_, ?_, fun g x hg => (hok.glob g x hg).mono hst, fun k hk => ?_⟩
  · intro i j oi oj hi hj hli hlj he
    rcases hH' i oi hi with h | ⟨h, h'⟩ <;> rcases hH' j oj hj with k | ⟨k, k'⟩
    · rw [hloc i oi h, hloc j oj k] at he
      exact hok.inj i j oi oj h k hli hlj he
    · exfalso
      have := (hok.obj i oi h hli).lt
      rw [hloc i oi h] at he
      subst k
      simp [s'] at he
      omega
    · exfalso
      have := (hok.obj j oj k hlj).lt
      rw [hloc j oj k] at he
      subst h
      simp [s'] at he
      omega
    · omega
  · intro i oi hi hl
    rcases hH' i oi hi with h | ⟨h, h'⟩
    · have hk := hok.obj i oi h hl
      exact hk.mono hst (hloc i oi h) (hget _ hk.lt)
    · subst h; subst h'
      exact hob s' hst rfl (by simp [s']) rfl
  · have := hok.maskLt k hk
    simp [s', hw]; omega

theorem pushObj {X : Ctx} {s : St} (hok : Ok X s) (o : Obj) (cur : Array Value) (ty : TypeId) {w' : World} {fr : Nat × Nat} (hfr : FrOk cur fr) (hw : w'.heap = s.w.heap.push (.cells cur ty fr))
    (hsz : o.rows.length * o.es ≤ cur.size) (hcap : o.box = false → ty = o.ty ∧ ∃ cap, cur.size = cap * o.es ∧ o.rows.length ≤ cap)
    (hes : ∀ r ∈ o.rows, r.cells.length = o.es) (hcell : ∀ r ∈ o.rows, ∀ c ∈ r.cells, isCell c = true) (hfree : o.box = false → ∀ r ∈ o.rows, refFree r = true)
    (hr : ∀ (r c : Nat) (x y : AV), o.rows[r]? = some x → x.cells[c]? = some y → ∃ v, cur[r * o.es + c]? = some v ∧ Rel s y v) (hit : o.it = none := by rfl) (hio : SameIo s.w w' := by exact ⟨rfl, rfl⟩) :
    ∃ s' : St, s'.w = w' ∧ s'.H = s.H ++ [o] ∧ s'.loc s.H.length = s.w.heap.size ∧ Step s s' ∧ Ok X s' := by
  refine pushAny hok o _ hw (hio := hio) fun s' hst hw' hloc hm => ⟨fun _ => ⟨cur, ty, fr, hfr, by rw [hloc, hw', hw]; simp, hsz, hcap, fun r c x y hx hy => ?_⟩, hes, hcell, hfree, ?_, fun p hp => by rw [hit] at hp; cases hp⟩
  · obtain ⟨v, hv, hrel⟩ := hr r c x y hx hy
    exact ⟨v, hv, hrel.mono hst⟩
  · intro hx
    rw [hm] at hx
    have := hok.maskLt _ hx
    omega

theorem getElem?_set_ne {α : Type} {l : List α} {i j : Nat} {x : α} (h : i ≠ j) : (l.set i x)[j]? = l[j]? := List.getElem?_set_ne h

/-- One object turns: its memory stays where it is, or is new. -/
theorem updateAny {X : Ctx} {s : St} (hok : Ok X s) {i : Nat} {o : Obj} (ho : s.H[i]? = some o) (hl : o.live = true) (o' : Obj) (b : Nat) (nb : Go.Obj) {w' : World}
    (hb : b = s.loc i ∨ s.w.heap.size ≤ b) (hsize : s.w.heap.size ≤ w'.heap.size)
    (hkeep : ∀ k, k < s.w.heap.size → k ≠ s.loc i ∨ b ≠ s.loc i → w'.heap[k]? = s.w.heap[k]?)
    (hnew : w'.heap[b]? = some nb) (hl' : o'.live = true) (hgen : o.gen ≤ o'.gen)
    (hsame : o'.gen = o.gen → b = s.loc i ∧ o'.rows.length = o.rows.length ∧ o'.es = o.es ∧ o'.box = o.box ∧
      ∀ cur ty fr, s.w.heap[s.loc i]? = some (.cells cur ty fr) → ∃ cur', nb = .cells cur' ty fr ∧ cur'.size = cur.size)
    (hob : ∀ s' : St, Step s s' → s'.w = w' → s'.loc i = b → ¬ s'.mask b → ObjOk s' i o') (hio : SameIo s.w w' := by exact ⟨rfl, rfl⟩) :
    ∃ s' : St, s'.w = w' ∧ s'.H = s.H.set i o' ∧ s'.loc i = b ∧ Step s s' ∧ Ok X s' := by
  let s' : St := { w := w', H := s.H.set i o', loc := fun j => if j = i then b else s.loc j, mask := s.mask }
  have hi : i < s.H.length := (List.getElem?_eq_some_iff.1 ho).1
  have hme : s'.H[i]? = some o' := by simp [s', hi]
  have hoth : ∀ j, j ≠ i → s'.H[j]? = s.H[j]? := fun j hj => by simp only [s']; exact getElem?_set_ne (Ne.symm hj)
  have hlocs : ∀ j, j ≠ i → s'.loc j = s.loc j := fun j hj => by simp [s', hj]
  have hloci : s'.loc i = b := by simp [s']
  have hmyOk := hok.obj i o ho hl
  have hothkeep : ∀ (j : Nat) (oj : Obj), s.H[j]? = some oj → oj.live = true → j ≠ i → w'.heap[s.loc j]? = s.w.heap[s.loc j]? := fun j oj hj hlj hne => by
    have hlt := (hok.obj j oj hj hlj).lt
    refine hkeep _ hlt (.inl fun he => hne ?_)
    exact hok.inj j i oj o hj ho hlj hl he
  have hown : ∀ k, k < s.w.heap.size → ¬ s.Own k → ¬ s'.Own k := by
    rintro k hk hn ⟨j, oj, hj, hlj, hbj⟩
    by_cases hji : j = i
    · subst hji
      rw [hloci] at hbj
      rcases hb with hb | hb
      · exact hn ⟨j, o, ho, hl, by rw [← hb]; exact hbj⟩
      · omega
    · rw [hoth j hji] at hj
      exact hn ⟨j, oj, hj, hlj, by rw [← hlocs j hji]; exact hbj⟩
  have hst : Step s s' := by
    refine ⟨hio, rfl, hsize, fun k hk hn => hkeep k hk (.inl fun he => hn ⟨i, o, ho, hl, he.symm⟩), hown, fun j oj hj => ?_⟩
    by_cases hji : j = i
    · subst hji
      rw [ho] at hj
      obtain rfl := Option.some.inj hj
      refine ⟨o', hme, fun h => (by rw [hl] at h; cases h), fun _ => hgen, fun _ hg => ?_⟩
      obtain ⟨e1, e2, e3, e4, e5⟩ := hsame hg
      refine ⟨by rw [hloci]; exact e1, e2, e3, e4, fun cur ty fr hc => ?_⟩
      obtain ⟨cur', e6, e7⟩ := e5 cur ty fr hc
      exact ⟨cur', by rw [hloci, ← e6]; exact hnew, e7⟩
    · refine ⟨oj, by rw [hoth j hji]; exact hj, fun h => h, fun _ => Nat.le_refl _, fun hlj _ => ⟨hlocs j hji, rfl, rfl, rfl, fun cur ty fr hc => ⟨cur, ?_, rfl⟩⟩⟩
      rw [hlocs j hji]
      simp only [s']
      rw [hothkeep j oj hj hlj hji]
      exact hc
  refine ⟨s', rfl, rfl, hloci, hst, ?_, ?_, fun g x hg => (hok.glob g x hg).mono hst, fun k hk => Nat.lt_of_lt_of_le (hok.maskLt k hk) hsize⟩
  · intro j k oj ok hj hk hlj hlk he
    by_cases hji : j = i <;> by_cases hki : k = i
    · omega
    · exfalso
      subst hji
      rw [hoth k hki] at hk
      rw [hloci, hlocs k hki] at he
      have hlt := (hok.obj k ok hk hlk).lt
      rcases hb with hb | hb
      · exact hki (hok.inj k j ok o hk ho hlk hl (by rw [← he]; exact hb))
      · omega
    · exfalso
      subst hki
      rw [hoth j hji] at hj
      rw [hloci, hlocs j hji] at he
      have hlt := (hok.obj j oj hj hlj).lt
      rcases hb with hb | hb
      · exact hji (hok.inj j k oj o hj ho hlj hl (by rw [he]; exact hb))
      · omega
    · rw [hoth j hji] at hj
      rw [hoth k hki] at hk
      rw [hlocs j hji, hlocs k hki] at he
      exact hok.inj j k oj ok hj hk hlj hlk he
  · intro j oj hj hlj
    by_cases hji : j = i
    · subst hji
      rw [hme] at hj
      obtain rfl := Option.some.inj hj
      refine hob s' hst rfl hloci ?_
      rcases hb with hb | hb
      · rw [hb]; exact hmyOk.mask
      · intro hm
        have := hok.maskLt _ hm
        omega
    · rw [hoth j hji] at hj
      exact (hok.obj j oj hj hlj).mono hst (hlocs j hji) (hothkeep j oj hj hlj hji)

theorem update {X : Ctx} {s : St} (hok : Ok X s) {i : Nat} {o : Obj} (ho : s.H[i]? = some o) (hl : o.live = true) (o' : Obj) (b : Nat) (cur' : Array Value) (ty' : TypeId) {fr' : Nat × Nat} (hfr : FrOk cur' fr') {w' : World}
    (hb : b = s.loc i ∨ s.w.heap.size ≤ b) (hsize : s.w.heap.size ≤ w'.heap.size)
    (hkeep : ∀ k, k < s.w.heap.size → k ≠ s.loc i ∨ b ≠ s.loc i → w'.heap[k]? = s.w.heap[k]?)
    (hnew : w'.heap[b]? = some (.cells cur' ty' fr')) (hl' : o'.live = true) (hgen : o.gen ≤ o'.gen)
    (hsame : o'.gen = o.gen → b = s.loc i ∧ o'.rows.length = o.rows.length ∧ o'.es = o.es ∧ o'.box = o.box ∧
      ∀ cur ty fr, s.w.heap[s.loc i]? = some (.cells cur ty fr) → ty' = ty ∧ fr' = fr ∧ cur'.size = cur.size)
    (hsz : o'.rows.length * o'.es ≤ cur'.size) (hcap : o'.box = false → ty' = o'.ty ∧ ∃ cap, cur'.size = cap * o'.es ∧ o'.rows.length ≤ cap)
    (hes : ∀ r ∈ o'.rows, r.cells.length = o'.es) (hcell : ∀ r ∈ o'.rows, ∀ c ∈ r.cells, isCell c = true) (hfree : o'.box = false → ∀ r ∈ o'.rows, refFree r = true)
    (hr : ∀ (r c : Nat) (x y : AV), o'.rows[r]? = some x → x.cells[c]? = some y → ∃ v, cur'[r * o'.es + c]? = some v ∧ Rel s y v) (hit : o'.it = none) (hio : SameIo s.w w' := by exact ⟨rfl, rfl⟩) :
    ∃ s' : St, s'.w = w' ∧ s'.H = s.H.set i o' ∧ s'.loc i = b ∧ Step s s' ∧ Ok X s' := by
  refine updateAny hok ho hl o' b _ hb hsize hkeep hnew hl' hgen (fun hg => ?_) (hio := hio) fun s' hst hw' hloc hm => ⟨fun _ => ⟨cur', ty', fr', hfr, by rw [hloc, hw']; exact hnew, hsz, hcap, fun r c x y hx hy => ?_⟩, hes, hcell, hfree, by rw [hloc]; exact hm, fun p hp => by rw [hit] at hp; cases hp⟩
  · obtain ⟨e1, e2, e3, e4, e5⟩ := hsame hg
    refine ⟨e1, e2, e3, e4, fun cur ty fr hc => ?_⟩
    obtain ⟨e6, e8, e7⟩ := e5 cur ty fr hc
    exact ⟨cur', by rw [e6, e8], e7⟩
  · obtain ⟨v, hv, hrel⟩ := hr r c x y hx hy
    exact ⟨v, hv, hrel.mono hst⟩

/-- An object is let go of: its memory is nobody's. -/
theorem kill {X : Ctx} {s : St} (hok : Ok X s) {i : Nat} {o : Obj} (ho : s.H[i]? = some o) (f : Obj) (hf : f.live = false) :
    Step s { s with H := s.H.set i f } ∧ Ok X { s with H := s.H.set i f } := by
  have hi : i < s.H.length := (List.getElem?_eq_some_iff.1 ho).1
  have hme : (s.H.set i f)[i]? = some f := by simp [hi]
  have hoth : ∀ j, j ≠ i → (s.H.set i f)[j]? = s.H[j]? := fun j hj => getElem?_set_ne (Ne.symm hj)
  have hlive : ∀ (j : Nat) (oj : Obj), (s.H.set i f)[j]? = some oj → oj.live = true → s.H[j]? = some oj := fun j oj hj hlj => by
    by_cases hji : j = i
    · subst hji
      rw [hme] at hj
      obtain rfl := Option.some.inj hj
      rw [hf] at hlj; cases hlj
    · rwa [hoth j hji] at hj
  have hst : Step s { s with H := s.H.set i f } := by
    refine ⟨⟨rfl, rfl⟩, rfl, Nat.le_refl _, fun _ _ _ => rfl, ?_, fun j oj hj => ?_⟩
    · rintro k _ hn ⟨j, oj, hj, hlj, hbj⟩
      exact hn ⟨j, oj, hlive j oj hj hlj, hlj, hbj⟩
    · by_cases hji : j = i
      · subst hji
        exact ⟨f, hme, fun _ => hf, fun h => (by rw [hf] at h; cases h), fun h => (by rw [hf] at h; cases h)⟩
      · exact ⟨oj, by simp only []; rw [hoth j hji]; exact hj, fun h => h, fun _ => Nat.le_refl _, fun _ _ => ⟨rfl, rfl, rfl, rfl, fun cur ty _ hc => ⟨cur, hc, rfl⟩⟩⟩
  refine ⟨hst, fun j k oj ok hj hk hlj hlk he => hok.inj j k oj ok (hlive j oj hj hlj) (hlive k ok hk hlk) hlj hlk he,
    fun j oj hj hlj => (hok.obj j oj (hlive j oj hj hlj) hlj).mono hst rfl rfl, fun g x hg => (hok.glob g x hg).mono hst, hok.maskLt⟩
end Go.Ab
