import Derived.Test.YtkkbdebmilagoaaGreatDoorCtx
import Derived.Test.YtkkbdebmilagoaaGreatDoorAbPure
import Derived.Maps.OwnSet
import Derived.WalkKit
set_option linter.unusedVariables false
set_option linter.unusedSimpArgs false
set_option maxRecDepth 100000
namespace Go.Proofs.YtkkbdebmilagoaaGreatDoor
/- search's match: walked by hand. -/
open Go Go.Ab Go.RowKit Go.Maps

theorem law3 : Keyed Tryz.prog 3 := int_keyed Tryz.underlying3
theorem zero4 (w : World) : (zeroValue 4).run Tryz.prog w = .ok (.bool false) w := by kernel_rfl
/-- A key, as it lies in memory. -/
structure SightC where
  uid : Int
  flags : Int
  date : Int
  bp : Option Addr
  bn : Nat
  bc : Nat
  place : Int
  lastP : Int
  lastU : Int
def SightC.val (s : SightC) : Value := .agg #[.int .i64 s.uid, .int .i64 s.flags, .int .i64 s.date, .slice s.bp s.bn s.bc, .int .i64 s.place, .int .i64 s.lastP, .int .i64 s.lastU]
theorem plainElem_bool_inv {v : Value} {z : DataW Unit × List MemPlace} (h : plainElem Tryz.prog 4 v = some z) : ∃ x, v = .bool x ∧ z = (.lit (.bool x), []) := by
  unfold plainElem at h
  rw [Tryz.underlying4] at h
  cases v <;> simp at h
  exact ⟨_, rfl, h.symm⟩
theorem past_alloc (B : Nat) {w W : World} (h : Past B w W) (hB : B ≤ W.heap.size) (o : Go.Obj) : Past B w (W.alloc o) := h.trans (Past.of_below ((Below.refl _ _).alloc hB _))
theorem past_alloc2 (w : World) (o o' : Go.Obj) : Past w.heap.size w ((w.alloc o).alloc o') := past_alloc _ (past_alloc _ (Past.refl _ _) (Nat.le_refl _) _) (Below.alloc (Below.refl _ w) (Nat.le_refl _) o).size _
theorem own_at {w W : World} {k : TypeId} {R : Value → Option (DataW Unit × List MemPlace)} {b n : Nat} {D : DataW Unit} (h : w.ownsMap Tryz.prog k R b n D) (hb : W.heap[b]? = w.heap[b]?) : W.ownsMap Tryz.prog k R b n D := by
  obtain ⟨es, clock, h1, h2⟩ := h
  exact ⟨es, clock, hb.trans h1, h2⟩
theorem own_lt {w : World} {k : TypeId} {R : Value → Option (DataW Unit × List MemPlace)} {b n : Nat} {D : DataW Unit} (h : w.ownsMap Tryz.prog k R b n D) : b < w.heap.size := by
  obtain ⟨es, clock, h1, _⟩ := h
  exact (Array.getElem?_eq_some_iff.1 h1).1
def SightC.obj (s : SightC) : Go.Obj := .cells #[.int .i64 s.uid, .int .i64 s.flags, .int .i64 s.date, .slice s.bp s.bn s.bc, .int .i64 s.place, .int .i64 s.lastP, .int .i64 s.lastU] 47
/-- A key of a list, as it lies in memory. -/
structure KeyP where
  op : Int
  nm : ByteArray
  tx : ByteArray
  kn : Int
  sp : Option Addr
  sn : Nat
  sk : Nat
  a : Nat
  b : Nat
def KeyP.val (k : KeyP) : Value := .agg #[.int .i64 k.op, .string k.nm, .string k.tx, .int .i64 k.kn, .slice k.sp k.sn k.sk, .int .i64 k.a, .int .i64 k.b]
def KeyP.obj (k : KeyP) : Go.Obj := .cells #[.int .i64 k.op, .string k.nm, .string k.tx, .int .i64 k.kn, .slice k.sp k.sn k.sk, .int .i64 k.a, .int .i64 k.b] 24
/-- A key's cells. -/
structure KeyAt (w : World) (bl o : Nat) (k : KeyP) : Prop where
  c0 : w.cell? ⟨bl, o, none⟩ = some (.int .i64 k.op)
  c1 : w.cell? ⟨bl, o + 1, none⟩ = some (.string k.nm)
  c2 : w.cell? ⟨bl, o + 2, none⟩ = some (.string k.tx)
  c3 : w.cell? ⟨bl, o + 3, none⟩ = some (.int .i64 k.kn)
  c4 : w.cell? ⟨bl, o + 4, none⟩ = some (.slice k.sp k.sn k.sk)
  c5 : w.cell? ⟨bl, o + 5, none⟩ = some (.int .i64 k.a)
  c6 : w.cell? ⟨bl, o + 6, none⟩ = some (.int .i64 k.b)
theorem cell_of {w W : World} {a : Addr} {v : Value} (h : w.cell? a = some v) (hb : W.heap[a.block]? = w.heap[a.block]?) : W.cell? a = some v := by
  unfold World.cell? at h ⊢
  rw [hb]; exact h
theorem KeyAt.of {w W : World} {bl o : Nat} {k : KeyP} (h : KeyAt w bl o k) (hb : W.heap[bl]? = w.heap[bl]?) : KeyAt W bl o k :=
  ⟨cell_of h.c0 hb, cell_of h.c1 hb, cell_of h.c2 hb, cell_of h.c3 hb, cell_of h.c4 hb, cell_of h.c5 hb, cell_of h.c6 hb⟩
/-- What stays through the whole: keys and map; what is known is so. -/
structure MapInv (w0 : World) (ev : Nat → Bool) (N : Nat) (b : Nat) (L : List Nat) (W : World) : Prop where
  past : Past w0.heap.size w0 W
  far : w0.heap.size ≤ b
  own : ∃ D : DataW Unit, W.ownsMap Tryz.prog 3 (plainElem Tryz.prog 4) b L.length D ∧ (∀ j : Nat, j < N → Maps.has D (.int .i64 j) = decide (j ∈ L)) ∧ ∀ j ∈ L, D.atKey (.int .i64 j) (.lit (.bool false)) = .lit (.bool (ev j))
  nodup : L.Nodup
  lt : ∀ j ∈ L, j < N
theorem nodup_len : ∀ (N : Nat) (L : List Nat), L.Nodup → (∀ j ∈ L, j < N) → L.length ≤ N
  | 0, L, _, h => by
    cases L with
    | nil => simp
    | cons x L => exact absurd (h x List.mem_cons_self) (Nat.not_lt_zero _)
  | N + 1, L, hd, h => by
    have h1 := nodup_len N (L.filter (· != N)) (hd.filter _) (fun j hj => by
      simp only [List.mem_filter, bne_iff_ne] at hj
      have := h j hj.1
      omega)
    have h2 : L.length ≤ (L.filter (· != N)).length + 1 := by
      clear h1 h
      induction L with
      | nil => simp
      | cons x L ih =>
        have hx := List.nodup_cons.1 hd
        by_cases hn : x = N
        · subst hn
          have hall : L.filter (· != x) = L := by
            rw [List.filter_eq_self]
            intro y hy
            simp only [bne_iff_ne]
            rintro rfl
            exact hx.1 hy
          simp [hall]
        · have := ih hx.2
          simp [hn]
          omega
    omega
theorem MapInv.put {w0 : World} {ev : Nat → Bool} {N b i : Nat} {L : List Nat} {W W1 : World} (h : MapInv w0 ev N b L W) (hi : i < N) (hil : i ∉ L) {D : DataW Unit} (hD : W.ownsMap Tryz.prog 3 (plainElem Tryz.prog 4) b L.length D) (hh : ∀ j : Nat, j < N → Maps.has D (.int .i64 j) = decide (j ∈ L)) (ha : ∀ j ∈ L, D.atKey (.int .i64 j) (.lit (.bool false)) = .lit (.bool (ev j)))
    (h1 : W1.ownsMap Tryz.prog 3 (plainElem Tryz.prog 4) b (L.length + 1) (D.put (.int .i64 i) (.lit (.bool (ev i))))) (hg : W.grownBy W1 (some b)) : MapInv w0 ev N b (L ++ [i]) W1 := by
  have hm := hD.isMap
  have hne : ∀ j : Nat, j ≠ i → (Lit.int .i64 (j : Int)) ≠ Lit.int .i64 (i : Int) := fun j hj he => by
    injection he with _ he; omega
  refine ⟨h.past.trans ⟨hg.os, hg.output, hg.size, fun k hk => hg.block k (by have := h.past.size; omega) (by have := h.far; intro he; cases he; omega)⟩, h.far, ⟨_, by simpa using h1, fun j hj => ?_, fun j hj => ?_⟩, ?_, ?_⟩
  · by_cases hji : j = i
    · subst hji
      rw [has_put_same (k := .int .i64 (j : Int)) hm trivial]; simp
    · rw [has_put_other (hne j hji), hh j hj]
      simp [hji]
  · by_cases hji : j = i
    · subst hji
      exact atKey_put_same (k := .int .i64 (j : Int)) hm trivial _ _
    · rw [atKey_put_other (hne j hji)]
      refine ha j ?_
      rcases List.mem_append.1 hj with hj | hj
      · exact hj
      · simp at hj; exact absurd hj hji
  · rw [List.nodup_append]
    refine ⟨h.nodup, by simp, ?_⟩
    intro x hx y hy
    simp at hy
    subst hy
    rintro rfl
    exact hil hx
  · intro j hj
    rcases List.mem_append.1 hj with hj | hj
    · exact h.lt j hj
    · simp at hj; omega
theorem MapInv.mono {w0 : World} {ev : Nat → Bool} {N b : Nat} {L : List Nat} {W W1 : World} (h : MapInv w0 ev N b L W) (hp : Past W.heap.size W W1) : MapInv w0 ev N b L W1 := by
  obtain ⟨D, hD, hh⟩ := h.own
  exact ⟨h.past.trans (hp.mono h.past.size), h.far, ⟨D, own_at hD (hp.block b (own_lt hD)), hh⟩, h.nodup, h.lt⟩
theorem alloc_past (w : World) (o : Go.Obj) : Past w.heap.size w (w.alloc o) := past_alloc _ (Past.refl _ _) (Nat.le_refl _) _
/-- The answer at a place, and what is known behind it. -/
def Kept (b : Nat) (W W' : World) : Prop := W.heap.size ≤ W'.heap.size ∧ ∀ k, k < W.heap.size → k ≠ b → W'.heap[k]? = W.heap[k]?
theorem Kept.trans {b : Nat} {x y z : World} (h : Kept b x y) (k : Kept b y z) : Kept b x z := ⟨Nat.le_trans h.1 k.1, fun j hj hb => (k.2 j (Nat.lt_of_lt_of_le hj h.1) hb).trans (h.2 j hj hb)⟩
theorem Kept.of_past {b : Nat} {x y : World} (h : Past x.heap.size x y) : Kept b x y := ⟨h.size, fun j hj _ => h.block j hj⟩
theorem Kept.of_grown {b : Nat} {x y : World} (h : x.grownBy y (some b)) : Kept b x y := ⟨h.size, fun j hj hb => h.block j hj (fun he => hb (by cases he; rfl))⟩
def MatchPost (w0 : World) (ev : Nat → Bool) (N b i : Nat) (L : List Nat) (W : World) (e : Ending) (W' : World) : Prop :=
  e = .returned (.bool (ev i)) ∧ ∃ L', MapInv w0 ev N b L' W' ∧ (∀ j ∈ L, j ∈ L') ∧ (∀ j ∈ L', j ∈ L ∨ j ≤ i) ∧ Kept b W W'
theorem heap_new (w : World) (o : Go.Obj) : (w.alloc o).heap[w.heap.size]? = some o := by
  show (w.heap.push o)[w.heap.size]? = some o
  exact Array.getElem?_push_size
theorem size_new (w : World) (o : Go.Obj) : (w.alloc o).heap.size = w.heap.size + 1 := by
  show (w.heap.push o).size = _
  exact Array.size_push ..
/-- The boxes of a call, behind a call of its own. -/
theorem boxes_at {b : Nat} {W W' : World} {o o' : Go.Obj} (hb : b < W.heap.size) (h : Kept b ((W.alloc o).alloc o') W') : W'.heap[W.heap.size]? = some o ∧ W'.heap[W.heap.size + 1]? = some o' := by
  have s1 := size_new W o
  have s2 := size_new (W.alloc o) o'
  refine ⟨(h.2 _ (by omega) (by omega)).trans ?_, (h.2 _ (by omega) (by omega)).trans ?_⟩
  · exact ((alloc_past (W.alloc o) o').block _ (by omega)).trans (heap_new W o)
  · have := heap_new (W.alloc o) o'
    rw [s1] at this
    exact this
theorem cell_box {w : World} {bl : Nat} {cs : Array Value} {t : TypeId} {fr : Nat × Nat} (h : w.heap[bl]? = some (.cells cs t fr)) (j : Nat) (v : Value) (hv : cs[j]? = some v) : w.cell? ⟨bl, j, none⟩ = some v := by
  unfold World.cell?
  simp [h, hv]

theorem look_at {w0 : World} {ev : Nat → Bool} {N b i : Nat} {L : List Nat} {W : World} (h : MapInv w0 ev N b L W) (hi : i < N) (hwf : (Lit.int .i64 (i : Int)).wf = true) (o : Go.Obj) :
    (Instr.lookup 49 (.map (some b)) (.int .i64 i) true).run Tryz.prog (W.alloc o) = .ok (.tuple #[.bool (if i ∈ L then ev i else false), .bool (decide (i ∈ L))]) (W.alloc o) := by
  have hkey := keyOf_int_mk (P := Tryz.prog) (k := 3) Tryz.underlying3 (a := (i : Int)) hwf
  obtain ⟨D, hD, hh, ha⟩ := h.own
  obtain ⟨v, ps, h1, h2⟩ := (hD.alloc o).look_ok law3 Tryz.underlying49 (zero4 _) (plainElem_bool Tryz.underlying4 false) hkey
  obtain ⟨c, rfl, hc⟩ := plainElem_bool_inv h2
  rw [h1, hh i hi]
  by_cases hm : i ∈ L
  · rw [ha i hm] at hc
    injection hc with hc _
    injection hc with hc
    injection hc with hc
    rw [if_pos hm, hc]
  · have hno : Maps.has D (.int .i64 i) = false := by rw [hh i hi]; exact decide_eq_false hm
    rw [atKey_of_not_has hno] at hc
    injection hc with hc _
    injection hc with hc
    injection hc with hc
    rw [if_neg hm, hc]
section
variable {w0 : World} {ev : Nat → Bool} {N b i : Nat} {L : List Nat} {W : World} (sc : SightC) (bl off cap len : Nat)
set_option maxHeartbeats 2000000 in
theorem match_known (h : MapInv w0 ev N b L W) (hi : i < N) (hwf : (Lit.int .i64 (i : Int)).wf = true) (hm : i ∈ L) :
    Calls Tryz.prog 17 #[sc.val, .slice (some ⟨bl, off, none⟩) len cap, .int .i64 i, .map (some b)] W (MatchPost w0 ev N b i L W) := by
  have hlook := look_at h hi hwf sc.obj
  rw [if_pos hm, decide_eq_true hm] at hlook
  have hend := h.mono (alloc_past W sc.obj)
  have hke := Kept.of_past (b := b) (alloc_past W sc.obj)
  unfold SightC.obj SightC.val at *
  go_enter Tryz.func17, Tryz.ntmps17
  go_wp2
  go_ret
  exact ⟨rfl, L, hend, fun j hj => hj, fun j hj => .inl hj, hke⟩
set_option maxHeartbeats 2000000 in
theorem match_leaf (h : MapInv w0 ev N b L W) (hi : i < N) (hil : i < len) (hwf : (Lit.int .i64 (i : Int)).wf = true) (hm : i ∉ L) (k : KeyP) (hk : KeyAt w0 bl (off + i * 7) k) (hbl : bl < w0.heap.size) (hN : N < 1000)
    (h16 : k.op ≠ 16) (h17 : k.op ≠ 17) (h18 : k.op ≠ 18)
    (hfin : ∀ W', Past w0.heap.size w0 W' → Calls Tryz.prog 21 #[sc.val, k.val] W' fun e W'' => e = .returned (.bool (ev i)) ∧ Past W'.heap.size W' W'') :
    Calls Tryz.prog 17 #[sc.val, .slice (some ⟨bl, off, none⟩) len cap, .int .i64 i, .map (some b)] W (MatchPost w0 ev N b i L W) := by
  have hlook := look_at h hi hwf sc.obj
  rw [if_neg hm, decide_eq_false hm] at hlook
  have hkey := keyOf_int_mk (P := Tryz.prog) (k := 3) Tryz.underlying3 (a := (i : Int)) hwf
  have hka : KeyAt (W.alloc sc.obj) bl (off + i * 7) k := hk.of ((h.mono (alloc_past W sc.obj)).past.block bl hbl)
  obtain ⟨c0, c1, c2, c3, c4, c5, c6⟩ := hka
  have h2 := (h.mono (alloc_past W sc.obj)).mono (alloc_past _ k.obj)
  have hk2 := (Kept.of_past (b := b) (alloc_past W sc.obj)).trans (Kept.of_past (alloc_past _ k.obj))
  have hbW : b < W.heap.size := by obtain ⟨D, hD, _⟩ := h.own; exact own_lt hD
  have hbx := fun (W' : World) (hx : Kept b ((W.alloc sc.obj).alloc k.obj) W') => boxes_at hbW hx
  have hfin := hfin _ h2.past
  have hn := nodup_len N L h.nodup h.lt
  obtain ⟨op, nm, tx, kn, sp, sn, sk, ka, kb⟩ := k
  simp only [] at h16 h17 h18 c0 c1 c2 c3 c4 c5 c6
  unfold KeyP.val KeyP.obj at *
  unfold SightC.obj SightC.val at *
  clear hk
  go_enter Tryz.func17, Tryz.ntmps17
  go_wp2_with (first
    | (go_at_call 21; refine hfin.mono ?_; rintro e W' ⟨rfl, hp⟩; have h3 := h2.mono hp; obtain ⟨D, hD, hh, ha⟩ := h3.own)
    | (at_mapUpdate; refine wpList_mapUpdate_own _ rfl _ _ _ 49 rfl 3 4 law3 Tryz.underlying49 _ b L.length D rfl hD (by unfold maxLen; omega) _ _ _ rfl rfl hkey _ [] (plainElem_bool Tryz.underlying4 (ev i)) ?_; intro w1 hown1 hgrow1))
  go_ret
  exact ⟨rfl, L ++ [i], h3.put hi hm hD hh ha hown1 hgrow1, fun j hj => List.mem_append_left _ hj, fun j hj => by
    rcases List.mem_append.1 hj with hj | hj
    · exact .inl hj
    · simp at hj; exact .inr (by omega), (hk2.trans (Kept.of_past hp)).trans (Kept.of_grown hgrow1)⟩
set_option maxHeartbeats 2000000 in
theorem match_not (h : MapInv w0 ev N b L W) (hi : i < N) (hil : i < len) (hwf : (Lit.int .i64 (i : Int)).wf = true) (hm : i ∉ L) (k : KeyP) (hk : KeyAt w0 bl (off + i * 7) k) (hbl : bl < w0.heap.size) (hN : N < 1000)
    (hop : k.op = 16) (hlt : k.a < i) (hev : ev i = !ev k.a)
    (IH : ∀ L' W', MapInv w0 ev N b L' W' → Calls Tryz.prog 17 #[sc.val, .slice (some ⟨bl, off, none⟩) len cap, .int .i64 k.a, .map (some b)] W' (MatchPost w0 ev N b k.a L' W')) :
    Calls Tryz.prog 17 #[sc.val, .slice (some ⟨bl, off, none⟩) len cap, .int .i64 i, .map (some b)] W (MatchPost w0 ev N b i L W) := by
  have hlook := look_at h hi hwf sc.obj
  rw [if_neg hm, decide_eq_false hm] at hlook
  have hkey := keyOf_int_mk (P := Tryz.prog) (k := 3) Tryz.underlying3 (a := (i : Int)) hwf
  have hka : KeyAt (W.alloc sc.obj) bl (off + i * 7) k := hk.of ((h.mono (alloc_past W sc.obj)).past.block bl hbl)
  obtain ⟨c0, c1, c2, c3, c4, c5, c6⟩ := hka
  have h2 := (h.mono (alloc_past W sc.obj)).mono (alloc_past _ k.obj)
  have hk2 := (Kept.of_past (b := b) (alloc_past W sc.obj)).trans (Kept.of_past (alloc_past _ k.obj))
  have hbW : b < W.heap.size := by obtain ⟨D, hD, _⟩ := h.own; exact own_lt hD
  have hbx := fun (W' : World) (hx : Kept b ((W.alloc sc.obj).alloc k.obj) W') => boxes_at hbW hx
  obtain ⟨op, nm, tx, kn, sp, sn, sk, ka, kb⟩ := k
  simp only [] at hop c0 c1 c2 c3 c4 c5 c6 hlt IH hev
  subst hop
  have IHa := IH _ _ h2
  unfold KeyP.obj at *
  unfold SightC.obj SightC.val at *
  clear hk IH
  go_enter Tryz.func17, Tryz.ntmps17
  go_wp2_with (first
    | (go_at_call 17; refine IHa.mono ?_; rintro e W' ⟨rfl, L', h3, hs, hs2, hkp⟩; obtain ⟨D, hD, hh, ha⟩ := h3.own; have hn := nodup_len N L' h3.nodup h3.lt)
    | (at_mapUpdate; refine wpList_mapUpdate_own _ rfl _ _ _ 49 rfl 3 4 law3 Tryz.underlying49 _ b L'.length D rfl hD (by unfold maxLen; omega) _ _ _ rfl rfl hkey _ [] (plainElem_bool Tryz.underlying4 _) ?_; intro w1 hown1 hgrow1))
  go_ret
  have hil' : i ∉ L' := fun hx => by
    rcases hs2 i hx with hx | hx
    · exact hm hx
    · omega
  rw [← hev] at hown1 ⊢
  exact ⟨rfl, L' ++ [i], h3.put hi hil' hD hh ha hown1 hgrow1, fun j hj => List.mem_append_left _ (hs j hj), fun j hj => by
    rcases List.mem_append.1 hj with hj | hj
    · rcases hs2 j hj with hj | hj
      · exact .inl hj
      · exact .inr (by omega)
    · simp at hj; exact .inr (by omega), (hk2.trans hkp).trans (Kept.of_grown hgrow1)⟩
set_option maxHeartbeats 4000000 in
theorem match_or (h : MapInv w0 ev N b L W) (hi : i < N) (hil : i < len) (hwf : (Lit.int .i64 (i : Int)).wf = true) (hm : i ∉ L) (k : KeyP) (hk : KeyAt w0 bl (off + i * 7) k) (hbl : bl < w0.heap.size) (hN : N < 1000)
    (hop : k.op = 17) (hlt : k.a < i ∧ k.b < i) (hev : ev i = (ev k.a || ev k.b))
    (IH : ∀ j, j < i → ∀ L' W', MapInv w0 ev N b L' W' → Calls Tryz.prog 17 #[sc.val, .slice (some ⟨bl, off, none⟩) len cap, .int .i64 j, .map (some b)] W' (MatchPost w0 ev N b j L' W')) :
    Calls Tryz.prog 17 #[sc.val, .slice (some ⟨bl, off, none⟩) len cap, .int .i64 i, .map (some b)] W (MatchPost w0 ev N b i L W) := by
  have hlook := look_at h hi hwf sc.obj
  rw [if_neg hm, decide_eq_false hm] at hlook
  have hkey := keyOf_int_mk (P := Tryz.prog) (k := 3) Tryz.underlying3 (a := (i : Int)) hwf
  have hka : KeyAt (W.alloc sc.obj) bl (off + i * 7) k := hk.of ((h.mono (alloc_past W sc.obj)).past.block bl hbl)
  obtain ⟨c0, c1, c2, c3, c4, c5, c6⟩ := hka
  have h2 := (h.mono (alloc_past W sc.obj)).mono (alloc_past _ k.obj)
  have hk2 := (Kept.of_past (b := b) (alloc_past W sc.obj)).trans (Kept.of_past (alloc_past _ k.obj))
  have hbW : b < W.heap.size := by obtain ⟨D, hD, _⟩ := h.own; exact own_lt hD
  have hbx := fun (W' : World) (hx : Kept b ((W.alloc sc.obj).alloc k.obj) W') => boxes_at hbW hx
  obtain ⟨op, nm, tx, kn, sp, sn, sk, ka, kb⟩ := k
  simp only [] at hop c0 c1 c2 c3 c4 c5 c6 hlt hev
  subst hop
  have IHa := IH ka hlt.1 _ _ h2
  have IHb := IH kb hlt.2
  unfold MatchPost at IHa
  cases hva : ev ka with
  | true =>
    rw [hva] at IHa hev
    have hev : ev i = true := hev
    unfold KeyP.obj at *
    unfold SightC.obj SightC.val at *
    clear hk IH IHb
    go_enter Tryz.func17, Tryz.ntmps17
    go_wp2_with (first
      | (go_at_call 17; refine IHa.mono ?_; rintro e W' ⟨rfl, L', h3, hs, hs2, hkp⟩; obtain ⟨D, hD, hh, ha⟩ := h3.own; have hn := nodup_len N L' h3.nodup h3.lt)
      | (at_mapUpdate; refine wpList_mapUpdate_own _ rfl _ _ _ 49 rfl 3 4 law3 Tryz.underlying49 _ b L'.length D rfl hD (by unfold maxLen; omega) _ _ _ rfl rfl hkey _ [] (plainElem_bool Tryz.underlying4 _) ?_; intro w1 hown1 hgrow1))
    go_ret
    have hil' : i ∉ L' := fun hx => by
      rcases hs2 i hx with hx | hx
      · exact hm hx
      · omega
    rw [← hev] at hown1
    refine ⟨by rw [hev]; rfl, L' ++ [i], h3.put hi hil' hD hh ha hown1 hgrow1, fun j hj => List.mem_append_left _ (hs j hj), fun j hj => by
      rcases List.mem_append.1 hj with hj | hj
      · rcases hs2 j hj with hj | hj
        · exact .inl hj
        · exact .inr (by omega)
      · simp at hj; exact .inr (by omega), (hk2.trans hkp).trans (Kept.of_grown hgrow1)⟩
  | false =>
    rw [hva] at IHa hev
    have hev : ev i = ev kb := by rw [hev]; cases ev kb <;> rfl
    unfold KeyP.obj at *
    unfold SightC.obj SightC.val at *
    clear hk IH
    go_enter Tryz.func17, Tryz.ntmps17
    go_wp2_with (first
      | (go_at_call 17; refine IHa.mono ?_; rintro e W' ⟨rfl, L', h3, hs, hs2, hkp⟩; clear IHa; have IHc := IHb _ _ h3; obtain ⟨x1, x2⟩ := hbx _ hkp; have y0 := cell_box x1 0 _ rfl; have y1 := cell_box x1 1 _ rfl; have y2 := cell_box x1 2 _ rfl; have y3 := cell_box x1 3 _ rfl; have y4 := cell_box x1 4 _ rfl; have y5 := cell_box x1 5 _ rfl; have y6 := cell_box x1 6 _ rfl; have y7 := cell_box x2 6 _ rfl; clear hlook c0 c1 c2 c3 c4 c5 c6)
      | (go_at_call 17; refine IHc.mono ?_; rintro e W'' ⟨rfl, L'', h4, hs3, hs4, hkq⟩; obtain ⟨D, hD, hh, ha⟩ := h4.own; have hn := nodup_len N L'' h4.nodup h4.lt)
      | (at_mapUpdate; refine wpList_mapUpdate_own _ rfl _ _ _ 49 rfl 3 4 law3 Tryz.underlying49 _ b L''.length D rfl hD (by unfold maxLen; omega) _ _ _ rfl rfl hkey _ [] (plainElem_bool Tryz.underlying4 _) ?_; intro w1 hown1 hgrow1))
    go_ret
    have hil' : i ∉ L'' := fun hx => by
      rcases hs4 i hx with hx | hx
      · rcases hs2 i hx with hx | hx
        · exact hm hx
        · omega
      · omega
    rw [← hev] at hown1 ⊢
    refine ⟨rfl, L'' ++ [i], h4.put hi hil' hD hh ha hown1 hgrow1, fun j hj => List.mem_append_left _ (hs3 j (hs j hj)), fun j hj => by
      rcases List.mem_append.1 hj with hj | hj
      · rcases hs4 j hj with hj | hj
        · rcases hs2 j hj with hj | hj
          · exact .inl hj
          · exact .inr (by omega)
        · exact .inr (by omega)
      · simp at hj; exact .inr (by omega), ((hk2.trans hkp).trans hkq).trans (Kept.of_grown hgrow1)⟩
set_option maxHeartbeats 4000000 in
theorem match_and (h : MapInv w0 ev N b L W) (hi : i < N) (hil : i < len) (hwf : (Lit.int .i64 (i : Int)).wf = true) (hm : i ∉ L) (k : KeyP) (hk : KeyAt w0 bl (off + i * 7) k) (hbl : bl < w0.heap.size) (hN : N < 1000)
    (hop : k.op = 18) (hlt : k.a < i ∧ k.b < i) (hev : ev i = (ev k.a && ev k.b))
    (IH : ∀ j, j < i → ∀ L' W', MapInv w0 ev N b L' W' → Calls Tryz.prog 17 #[sc.val, .slice (some ⟨bl, off, none⟩) len cap, .int .i64 j, .map (some b)] W' (MatchPost w0 ev N b j L' W')) :
    Calls Tryz.prog 17 #[sc.val, .slice (some ⟨bl, off, none⟩) len cap, .int .i64 i, .map (some b)] W (MatchPost w0 ev N b i L W) := by
  have hlook := look_at h hi hwf sc.obj
  rw [if_neg hm, decide_eq_false hm] at hlook
  have hkey := keyOf_int_mk (P := Tryz.prog) (k := 3) Tryz.underlying3 (a := (i : Int)) hwf
  have hka : KeyAt (W.alloc sc.obj) bl (off + i * 7) k := hk.of ((h.mono (alloc_past W sc.obj)).past.block bl hbl)
  obtain ⟨c0, c1, c2, c3, c4, c5, c6⟩ := hka
  have h2 := (h.mono (alloc_past W sc.obj)).mono (alloc_past _ k.obj)
  have hk2 := (Kept.of_past (b := b) (alloc_past W sc.obj)).trans (Kept.of_past (alloc_past _ k.obj))
  have hbW : b < W.heap.size := by obtain ⟨D, hD, _⟩ := h.own; exact own_lt hD
  have hbx := fun (W' : World) (hx : Kept b ((W.alloc sc.obj).alloc k.obj) W') => boxes_at hbW hx
  obtain ⟨op, nm, tx, kn, sp, sn, sk, ka, kb⟩ := k
  simp only [] at hop c0 c1 c2 c3 c4 c5 c6 hlt hev
  subst hop
  have IHa := IH ka hlt.1 _ _ h2
  have IHb := IH kb hlt.2
  unfold MatchPost at IHa
  cases hva : ev ka with
  | false =>
    rw [hva] at IHa hev
    have hev : ev i = false := hev
    unfold KeyP.obj at *
    unfold SightC.obj SightC.val at *
    clear hk IH IHb
    go_enter Tryz.func17, Tryz.ntmps17
    go_wp2_with (first
      | (go_at_call 17; refine IHa.mono ?_; rintro e W' ⟨rfl, L', h3, hs, hs2, hkp⟩; obtain ⟨D, hD, hh, ha⟩ := h3.own; have hn := nodup_len N L' h3.nodup h3.lt)
      | (at_mapUpdate; refine wpList_mapUpdate_own _ rfl _ _ _ 49 rfl 3 4 law3 Tryz.underlying49 _ b L'.length D rfl hD (by unfold maxLen; omega) _ _ _ rfl rfl hkey _ [] (plainElem_bool Tryz.underlying4 _) ?_; intro w1 hown1 hgrow1))
    go_ret
    have hil' : i ∉ L' := fun hx => by
      rcases hs2 i hx with hx | hx
      · exact hm hx
      · omega
    rw [← hev] at hown1
    refine ⟨by rw [hev]; rfl, L' ++ [i], h3.put hi hil' hD hh ha hown1 hgrow1, fun j hj => List.mem_append_left _ (hs j hj), fun j hj => by
      rcases List.mem_append.1 hj with hj | hj
      · rcases hs2 j hj with hj | hj
        · exact .inl hj
        · exact .inr (by omega)
      · simp at hj; exact .inr (by omega), (hk2.trans hkp).trans (Kept.of_grown hgrow1)⟩
  | true =>
    rw [hva] at IHa hev
    have hev : ev i = ev kb := by rw [hev]; cases ev kb <;> rfl
    unfold KeyP.obj at *
    unfold SightC.obj SightC.val at *
    clear hk IH
    go_enter Tryz.func17, Tryz.ntmps17
    go_wp2_with (first
      | (go_at_call 17; refine IHa.mono ?_; rintro e W' ⟨rfl, L', h3, hs, hs2, hkp⟩; clear IHa; have IHc := IHb _ _ h3; obtain ⟨x1, x2⟩ := hbx _ hkp; have y0 := cell_box x1 0 _ rfl; have y1 := cell_box x1 1 _ rfl; have y2 := cell_box x1 2 _ rfl; have y3 := cell_box x1 3 _ rfl; have y4 := cell_box x1 4 _ rfl; have y5 := cell_box x1 5 _ rfl; have y6 := cell_box x1 6 _ rfl; have y7 := cell_box x2 6 _ rfl; clear hlook c0 c1 c2 c3 c4 c5 c6)
      | (go_at_call 17; refine IHc.mono ?_; rintro e W'' ⟨rfl, L'', h4, hs3, hs4, hkq⟩; obtain ⟨D, hD, hh, ha⟩ := h4.own; have hn := nodup_len N L'' h4.nodup h4.lt)
      | (at_mapUpdate; refine wpList_mapUpdate_own _ rfl _ _ _ 49 rfl 3 4 law3 Tryz.underlying49 _ b L''.length D rfl hD (by unfold maxLen; omega) _ _ _ rfl rfl hkey _ [] (plainElem_bool Tryz.underlying4 _) ?_; intro w1 hown1 hgrow1))
    go_ret
    have hil' : i ∉ L'' := fun hx => by
      rcases hs4 i hx with hx | hx
      · rcases hs2 i hx with hx | hx
        · exact hm hx
        · omega
      · omega
    rw [← hev] at hown1 ⊢
    refine ⟨rfl, L'' ++ [i], h4.put hi hil' hD hh ha hown1 hgrow1, fun j hj => List.mem_append_left _ (hs3 j (hs j hj)), fun j hj => by
      rcases List.mem_append.1 hj with hj | hj
      · rcases hs4 j hj with hj | hj
        · rcases hs2 j hj with hj | hj
          · exact .inl hj
          · exact .inr (by omega)
        · exact .inr (by omega)
      · simp at hj; exact .inr (by omega), ((hk2.trans hkp).trans hkq).trans (Kept.of_grown hgrow1)⟩
end
end Go.Proofs.YtkkbdebmilagoaaGreatDoor
