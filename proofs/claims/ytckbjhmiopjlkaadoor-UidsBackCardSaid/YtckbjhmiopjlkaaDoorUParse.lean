import Derived.Test.YtckbjhmiopjlkaaDoorCtx
import Derived.Test.YtckbjhmiopjlkaaDoorAbStr
import Derived.Test.YtckbjhmiopjlkaaDoorAbRow
import Derived.Test.YtckbjhmiopjlkaaDoorAbPure
import Derived.RangeFuncRecord
import Derived.RangeFuncLeaves
import Derived.RangeFuncCalls
import Derived.RangeFuncBox
import Derived.WalkKit
import Derived.TacticsIn
import Derived.BigFrameIn
import Derived.OwnWalkIn
import Derived.LoopIn
import Derived.LoopNIn
import Derived.TacticsInMore
set_option linter.unusedVariables false
set_option linter.unusedSimpArgs false
set_option maxRecDepth 100000
namespace Go.Proofs.YtckbjhmiopjlkaaDoor
/- uids.Parse: a range over the parts of a text: walked by hand. -/
open Go Go.Ab Go.RowKit
attribute [local go_sem] Oper.semAt_some

def rfIn : Code → Option (Code × Code)
  | .seq a b => match rfIn a with
    | some x => some x
    | none => rfIn b
  | .cond _ a b => match rfIn a with
    | some x => some x
    | none => rfIn b
  | .block _ a => rfIn a
  | .rangeFunc _ _ a b => some (a, b)
  | _ => none
noncomputable def asg : Code := match Tryd.f18.body with
  | some c => match rfIn c with
    | some p => p.1
    | none => .skip
  | none => .skip
noncomputable def bod : Code := match Tryd.f18.body with
  | some c => match rfIn c with
    | some p => p.2
    | none => .skip
  | none => .skip

def seqW (w : World) (s sep : ByteArray) (k : Int) : World := ((w.alloc (.cells #[.string s] 9)).alloc (.cells #[.string sep] 9)).alloc (.cells #[.int .i64 k] 3)
def seqV (w : World) : Value := .func (.func 50) #[] #[.pointer (some ⟨w.heap.size + 1, 0, none⟩), .pointer (some ⟨w.heap.size, 0, none⟩), .pointer (some ⟨w.heap.size + 2, 0, none⟩)]
theorem splitSeq_in (F : Fence) (n : Nat) (hF : ∀ g, F.fn g) (hro : F.round = none) (s sep : ByteArray) (k : Int) (w : World) :
    CallsIn F n Tryd.prog 42 #[.string s, .string sep, .int .i64 k] w fun e w' => e = .returned (seqV w) ∧ w' = seqW w s sep k := by
  refine callsIn_of_wp Tryd.func42 rfl (hF _) ?_ hro
  simp only [Tryd.ntmps42, List.size_toArray, List.length_cons, List.length_nil, Nat.reduceAdd, Nat.reduceSub, Array.replicate_succ, Array.replicate_zero, List.push_toArray, List.append_toArray, List.nil_append, List.cons_append]
  gi_wp2
  exact bodyPost_ret (results_tmp rfl _ _ _) rfl ⟨rfl, rfl⟩
theorem SplitSeq_in (F : Fence) (n : Nat) (hF : ∀ g, F.fn g) (hro : F.round = none) (hn : 2 ≤ n) (s sep : ByteArray) (w : World) :
    CallsIn F n Tryd.prog 30 #[.string s, .string sep] w fun e w' => e = .returned (seqV w) ∧ w' = seqW w s sep 0 := by
  refine callsIn_of_wp Tryd.func30 rfl (hF _) ?_ hro
  simp only [Tryd.ntmps30, List.size_toArray, List.length_cons, List.length_nil, Nat.reduceAdd, Nat.reduceSub, Array.replicate_succ, Array.replicate_zero, List.push_toArray, List.append_toArray, List.nil_append, List.cons_append]
  have h1 : 1 ≤ n := by omega
  gi_wp2_with (gi_at_call 42; refine (splitSeq_in F (n - 1) hF hro _ _ _ _).mono ?_; rintro e w' ⟨rfl, rfl⟩)
  exact bodyPost_ret (results_tmp rfl _ _ _) rfl ⟨rfl, rfl⟩

/-- A pair's cells, one behind the other. -/
def cellsOf : List (Int × Int) → List Value
  | [] => []
  | x :: xs => .int .i64 x.1 :: .int .i64 x.2 :: cellsOf xs
theorem cellsOf_snoc (x : Int × Int) : ∀ l, cellsOf (l ++ [x]) = cellsOf l ++ [.int .i64 x.1, .int .i64 x.2]
  | [] => rfl
  | y :: l => by simp [cellsOf, cellsOf_snoc x l]
theorem cellsOf_len : ∀ l, (cellsOf l).length = l.length * 2
  | [] => rfl
  | y :: l => by simp [cellsOf, cellsOf_len l]; omega

/-- The loop's record: Parse's temporaries as they stood at the entering. -/
noncomputable def rec0 (fn : FuncId) (n0 : Nat) (s : ByteArray) (q : Value) (st : LoopState) (pend : Option Code) : Loop :=
  { state := st, pending := pend, fn,
    tmps := #[.string s, undef, .pointer (some ⟨n0, 0, none⟩), .pointer (some ⟨n0 + 1, 0, none⟩), .pointer (some ⟨n0 + 2, 0, none⟩), undef, undef, undef, undef, undef, undef, undef, undef, .string s, .int .i64 s.size, .bool (decide (2000 < (s.size : Int))), .string s, q,
      undef, undef, undef, undef, undef, undef, undef, undef, undef, undef, undef, undef, undef, undef, undef, undef, undef, undef, undef, undef, undef, undef, undef, undef, undef, undef, undef, undef, undef, undef, undef, undef, undef, undef, undef, undef, undef, undef, undef, undef, undef, undef, undef, undef],
    params := #[18], assign := asg, body := bod, defers := n0 + 6 }

/-- Between two rounds, or in one: what was parsed, what is left. -/
structure Mid (w0 : World) (fn : FuncId) (s : ByteArray) (q : Value) (st : LoopState) (acc : List (Int × Int)) (rest : ByteArray) (W : World) : Prop where
  past : Past w0.heap.size w0 W
  big : w0.heap.size + 8 ≤ W.heap.size
  c2 : W.heap[w0.heap.size]? = some (.cells #[.slice none 0 0] 22 (0, 0))
  c3 : W.heap[w0.heap.size + 1]? = some (.cells #[.int .i64 0] 36 (0, 0))
  row : ∃ v, Boxed W (w0.heap.size + 2) 22 v ∧ W.ownsRow (w0.heap.size + 8) 25 2 v acc.length (cellsOf acc) ∧ (v = .slice none 0 0 ↔ acc = [])
  cs : W.heap[w0.heap.size + 3]? = some (.cells #[.string rest] 9 (0, 0))
  csep : W.heap[w0.heap.size + 4]? = some (.cells #[.string ⟨#[44]⟩] 9 (0, 0))
  csave : W.heap[w0.heap.size + 5]? = some (.cells #[.int .i64 0] 3 (0, 0))
  K : W.heap[w0.heap.size + 6]? = some (.deferred (some []))
  L : W.heap[w0.heap.size + 7]? = some (.loop (rec0 fn w0.heap.size s q st none))

theorem _root_.Go.Ab.Past.row {w W : World} {base : Nat} {e : TypeId} {size : Nat} {v : Value} {n : Nat} {xs : List Value} (h : Past w.heap.size w W) (hr : w.ownsRow base e size v n xs) : W.ownsRow base e size v n xs := by
  refine ⟨hr.1, ?_⟩
  rcases hr.2 with hn | ⟨g, cap, cur, rfl, hb, hgg, rest⟩
  · exact .inl hn
  · exact .inr ⟨g, cap, cur, rfl, hb, (h.block g (Array.getElem?_eq_some_iff.1 hgg).1).trans hgg, rest⟩

theorem Mid.later {w0 : World} {fn : FuncId} {s : ByteArray} {q : Value} {st : LoopState} {acc : List (Int × Int)} {rest : ByteArray} {W W' : World} (h : Mid w0 fn s q st acc rest W) (hp : Past W.heap.size W W') : Mid w0 fn s q st acc rest W' := by
  have hb := h.big
  have hs := h.past.size
  have hz := hp.size
  have at_ : ∀ k, k < w0.heap.size + 8 → W'.heap[k]? = W.heap[k]? := fun k hk => hp.block k (by omega)
  refine ⟨h.past.trans (hp.mono h.past.size), by omega, (at_ _ (by omega)).trans h.c2, (at_ _ (by omega)).trans h.c3, ?_, (at_ _ (by omega)).trans h.cs, (at_ _ (by omega)).trans h.csep, (at_ _ (by omega)).trans h.csave, (at_ _ (by omega)).trans h.K, (at_ _ (by omega)).trans h.L⟩
  obtain ⟨v, h1, h2, h3⟩ := h.row
  exact ⟨v, (at_ _ (by omega)).trans h1, hp.row h2, h3⟩

/-- A text cut at a byte. -/
def cutAt (c : UInt8) (p : List UInt8) : List UInt8 × List UInt8 × Bool :=
  match splitL c p with
  | [] => (p, [], false)
  | [_] => (p, [], false)
  | x :: _ => (x, p.drop (x.length + 1), true)
theorem splitL_sub {c : UInt8} {p : List UInt8} : ∀ {x}, x ∈ splitL c p → x.length ≤ p.length := by
  induction p with
  | nil => intro x hx; simp [splitL] at hx; simp [hx]
  | cons b p ih =>
    intro x hx
    unfold splitL at hx
    split at hx
    · rcases List.mem_cons.1 hx with rfl | hx
      · simp
      · have := ih hx; simp; omega
    · split at hx
      · simp at hx; simp [hx]
      · rename_i p' ps he
        rcases List.mem_cons.1 hx with rfl | hx
        · have := ih (x := p') (by rw [he]; exact List.mem_cons_self); simp; omega
        · have := ih (x := x) (by rw [he]; exact List.mem_cons_of_mem _ hx); simp; omega
theorem cut_len1 {p : List UInt8} (hp : p.length ≤ 2000) : (cutAt 58 p).1.length ≤ 2000 := by
  unfold cutAt
  split
  · exact hp
  · exact hp
  · rename_i x _ _ he
    have := splitL_sub (c := 58) (p := p) (x := x) (by rw [he]; exact List.mem_cons_self)
    show x.length ≤ 2000
    omega
theorem cut_len2 {p : List UInt8} (hp : p.length ≤ 2000) : (cutAt 58 p).2.1.length ≤ 2000 := by
  unfold cutAt
  split
  · simp
  · simp
  · show (p.drop _).length ≤ 2000
    simp; omega
/-- A part's range. -/
def stepP (num : List UInt8 → Int × Bool) (p : List UInt8) : Option (Int × Int) :=
  let c := cutAt 58 p
  let a := num c.1
  let b := num (if c.2.2 then c.2.1 else c.1)
  if (!a.2 || (!b.2 || (c.2.2 && a.1 == b.1))) = true then none else some (a.1, b.1)
def goP (num : List UInt8 → Int × Bool) : List (List UInt8) → List (Int × Int) → Option (List (Int × Int))
  | [], acc => some acc
  | p :: ps, acc => match stepP num p with
    | none => none
    | some x => goP num ps (acc ++ [x])

theorem rel_tup3 {s : St} {a b : ByteArray} {c : Bool} {cv : Value} (h : Rel s (.tup [sv a, sv b, bv c]) cv) : cv = .tuple #[.string a, .string b, .bool c] := by
  cases h with
  | tup cs vs h1 h2 =>
    obtain ⟨l⟩ := vs
    match l, h1, h2 with
    | [x, y, z], _, h2 =>
      have e0 := (h2 0 _ _ rfl rfl).v_inv.1
      have e1 := (h2 1 _ _ rfl rfl).v_inv.1
      have e2 := (h2 2 _ _ rfl rfl).v_inv.1
      subst e0 e1 e2
      rfl
theorem rel_tup2 {s : St} {a : Int} {c : Bool} {cv : Value} (h : Rel s (.tup [iv a, bv c]) cv) : cv = .tuple #[.int .i64 a, .bool c] := by
  cases h with
  | tup cs vs h1 h2 =>
    obtain ⟨l⟩ := vs
    match l, h1, h2 with
    | [x, y], _, h2 =>
      have e0 := (h2 0 _ _ rfl rfl).v_inv.1
      have e1 := (h2 1 _ _ rfl rfl).v_inv.1
      subst e0 e1
      rfl

/-- What is asked of the functions that Parse calls. -/
structure Told (K : PureK) (num : List UInt8 → Int × Bool) : Prop where
  ok : KOk X K
  cut : ∀ p : List UInt8, p.length ≤ 2000 → K f_strings_Cut [sv (bs p), sv ⟨#[58]⟩] = some (.tup [sv (bs (cutAt 58 p).1), sv (bs (cutAt 58 p).2.1), bv (cutAt 58 p).2.2])
  num : ∀ p : List UInt8, p.length ≤ 2000 → K f_uids_number [sv (bs p)] = some (.tup [iv (num p).1, bv (num p).2])
  idx : ∀ p : List UInt8, p.length ≤ 2000 → K f_strings_Index [sv (bs p), sv ⟨#[44]⟩] = some (iv (firstIdx (bs p) 44))

section
variable {K : PureK} {num : List UInt8 → Int × Bool} (hT : Told K num) {s0 : St} (hok : Ok X s0) (hH : s0.H = []) {fn : FuncId} {s : ByteArray} {q : Value}
include hT hok hH

theorem cut_mid {st : LoopState} {acc : List (Int × Int)} {rest : ByteArray} {W : World} (h : Mid s0.w fn s q st acc rest W) (p : List UInt8) (hp : p.length ≤ 2000) :
    Calls Tryd.prog 31 #[.string (bs p), .string ⟨#[58]⟩] W fun e W' => e = .returned (.tuple #[.string (bs (cutAt 58 p).1), .string (bs (cutAt 58 p).2.1), .bool (cutAt 58 p).2.2]) ∧ Mid s0.w fn s q st acc rest W' := by
  refine (pure_calls (X := X) (hT.ok _ _ _ (hT.cut p hp)) Tryd.func31 rfl (by kernel_rfl) hok hH h.past (rels_2 (.v _ rfl) (.v _ rfl))).mono ?_
  rintro e W' ⟨cv, rfl, h1, h2, h3⟩
  obtain rfl := rel_tup3 h3
  exact ⟨rfl, h.later h1⟩
theorem num_mid {st : LoopState} {acc : List (Int × Int)} {rest : ByteArray} {W : World} (h : Mid s0.w fn s q st acc rest W) (p : List UInt8) (hp : p.length ≤ 2000) :
    Calls Tryd.prog 32 #[.string (bs p)] W fun e W' => e = .returned (.tuple #[.int .i64 (num p).1, .bool (num p).2]) ∧ Mid s0.w fn s q st acc rest W' := by
  refine (pure_calls (X := X) (hT.ok _ _ _ (hT.num p hp)) Tryd.func32 rfl (by kernel_rfl) hok hH h.past (rels_1 (.v _ rfl))).mono ?_
  rintro e W' ⟨cv, rfl, h1, h2, h3⟩
  obtain rfl := rel_tup2 h3
  exact ⟨rfl, h.later h1⟩
theorem idx_mid {st : LoopState} {acc : List (Int × Int)} {rest : ByteArray} {W : World} (h : Mid s0.w fn s q st acc rest W) (p : List UInt8) (hp : p.length ≤ 2000) :
    Calls Tryd.prog 52 #[.string (bs p), .string ⟨#[44]⟩] W fun e W' => e = .returned (.int .i64 (firstIdx (bs p) 44)) ∧ Mid s0.w fn s q st acc rest W' := by
  refine (pure_calls (X := X) (hT.ok _ _ _ (hT.idx p hp)) Tryd.func52 rfl (by kernel_rfl) hok hH h.past (rels_2 (.v _ rfl) (.v _ rfl))).mono ?_
  rintro e W' ⟨cv, rfl, h1, h2, h3⟩
  obtain rfl := h3.v_inv.1
  exact ⟨rfl, h.later h1⟩
end

/-- What a round leaves that has found no range. -/
structure Fail (w0 : World) (fn : FuncId) (s : ByteArray) (q : Value) (W : World) : Prop where
  past : Past w0.heap.size w0 W
  big : w0.heap.size + 8 ≤ W.heap.size
  c2 : W.heap[w0.heap.size]? = some (.cells #[.slice none 0 0] 22 (0, 0))
  c3 : W.heap[w0.heap.size + 1]? = some (.cells #[.int .i64 3] 36 (0, 0))
  K : W.heap[w0.heap.size + 6]? = some (.deferred (some []))
  L : W.heap[w0.heap.size + 7]? = some (.loop (rec0 fn w0.heap.size s q .done (some .ret)))

theorem _root_.Go.Ab.Past.put {w0 W : World} (h : Past w0.heap.size w0 W) {l : Nat} (hl : w0.heap.size ≤ l) (o : Obj) : Past w0.heap.size w0 (W.putObj l o) :=
  ⟨h.os, h.output, by simpa [World.putObj] using h.size, fun k hk => (World.putObj_heap_other (by omega)).trans (h.block k hk)⟩

/-- The record alone turns. -/
theorem Mid.turn {w0 : World} {fn : FuncId} {s : ByteArray} {q : Value} {st st' : LoopState} {acc : List (Int × Int)} {rest : ByteArray} {W : World} (h : Mid w0 fn s q st acc rest W) :
    Mid w0 fn s q st' acc rest (W.putObj (w0.heap.size + 7) (.loop (rec0 fn w0.heap.size s q st' none))) := by
  have hb := h.big
  have at_ : ∀ k, k ≠ w0.heap.size + 7 → (W.putObj (w0.heap.size + 7) (.loop (rec0 fn w0.heap.size s q st' none))).heap[k]? = W.heap[k]? := fun k hk => World.putObj_heap_other hk
  refine ⟨h.past.put (by omega) _, by simpa [World.putObj] using h.big, (at_ _ (by omega)).trans h.c2, (at_ _ (by omega)).trans h.c3, ?_, (at_ _ (by omega)).trans h.cs, (at_ _ (by omega)).trans h.csep, (at_ _ (by omega)).trans h.csave, (at_ _ (by omega)).trans h.K, World.putObj_heap_same (by omega)⟩
  obtain ⟨v, h1, h2, h3⟩ := h.row
  refine ⟨v, (at_ _ (by omega)).trans h1, ⟨h2.1, ?_⟩, h3⟩
  rcases h2.2 with hn | ⟨g, cap, cur, rfl, hb', hgg, rest⟩
  · exact .inl hn
  · exact .inr ⟨g, cap, cur, rfl, hb', (at_ _ (by omega)).trans hgg, rest⟩

theorem Mid.cell2 {w0 : World} {fn : FuncId} {s : ByteArray} {q : Value} {st : LoopState} {acc : List (Int × Int)} {rest : ByteArray} {W : World} (h : Mid w0 fn s q st acc rest W) :
    W.cell? ⟨w0.heap.size, 0, none⟩ = some (.slice none 0 0) ∧ W.frozen? ⟨w0.heap.size, 0, none⟩ = false := by
  simp [World.cell?, World.frozen?, h.c2]
theorem Mid.cell3 {w0 : World} {fn : FuncId} {s : ByteArray} {q : Value} {st : LoopState} {acc : List (Int × Int)} {rest : ByteArray} {W : World} (h : Mid w0 fn s q st acc rest W) :
    W.cell? ⟨w0.heap.size + 1, 0, none⟩ = some (.int .i64 0) ∧ W.frozen? ⟨w0.heap.size + 1, 0, none⟩ = false := by
  simp [World.cell?, World.frozen?, h.c3]
/-- One cell of a block of one is written. -/
theorem setCell_block {W : World} {b : Nat} {v u : Value} {t : TypeId} (h : W.heap[b]? = some (.cells #[v] t (0, 0))) : (W.setCell ⟨b, 0, none⟩ u).heap[b]? = some (.cells #[u] t (0, 0)) := by
  have hlt := (Array.getElem?_eq_some_iff.1 h).1
  simp [World.setCell, Array.getElem?_modify, h]
theorem _root_.Go.Ab.Past.set {w0 W : World} (h : Past w0.heap.size w0 W) {b o : Nat} (hl : w0.heap.size ≤ b) (u : Value) : Past w0.heap.size w0 (W.setCell ⟨b, o, none⟩ u) :=
  h.trans (Past.of_below ((Below.refl _ _).setCell (p := ⟨b, o, none⟩) hl u))
theorem Mid.fail {w0 : World} {fn : FuncId} {s : ByteArray} {q : Value} {acc : List (Int × Int)} {rest : ByteArray} {W : World} (h : Mid w0 fn s q .busy acc rest W) :
    ((W.setCell ⟨w0.heap.size, 0, none⟩ (.slice none 0 0)).setCell ⟨w0.heap.size + 1, 0, none⟩ (.int .i64 3)).heap[w0.heap.size + 7]? = some (.loop (rec0 fn w0.heap.size s q .busy none)) ∧
    Fail w0 fn s q (((W.setCell ⟨w0.heap.size, 0, none⟩ (.slice none 0 0)).setCell ⟨w0.heap.size + 1, 0, none⟩ (.int .i64 3)).putObj (w0.heap.size + 7) (.loop (rec0 fn w0.heap.size s q .done (some .ret)))) := by
  have hb := h.big
  have oth : ∀ k, k ≠ w0.heap.size → k ≠ w0.heap.size + 1 → ((W.setCell ⟨w0.heap.size, 0, none⟩ (.slice none 0 0)).setCell ⟨w0.heap.size + 1, 0, none⟩ (.int .i64 3)).heap[k]? = W.heap[k]? := fun k h1 h2 =>
    (Below.heap_setCell _ _ _ _ h2).trans (Below.heap_setCell _ _ _ _ h1)
  have hL := (oth (w0.heap.size + 7) (by omega) (by omega)).trans h.L
  have put : ∀ k, k ≠ w0.heap.size + 7 → (((W.setCell ⟨w0.heap.size, 0, none⟩ (.slice none 0 0)).setCell ⟨w0.heap.size + 1, 0, none⟩ (.int .i64 3)).putObj (w0.heap.size + 7) (.loop (rec0 fn w0.heap.size s q .done (some .ret)))).heap[k]? = ((W.setCell ⟨w0.heap.size, 0, none⟩ (.slice none 0 0)).setCell ⟨w0.heap.size + 1, 0, none⟩ (.int .i64 3)).heap[k]? := fun k hk => World.putObj_heap_other hk
  refine ⟨hL, ((h.past.set (Nat.le_refl _) _).set (by omega) _).put (by omega) _, by simpa [World.putObj, World.setCell] using h.big, (put _ (by omega)).trans ((Below.heap_setCell _ _ _ _ (by simp)).trans (setCell_block h.c2)),
    (put _ (by omega)).trans (setCell_block ((Below.heap_setCell _ _ _ _ (by simp)).trans h.c3)), (put _ (by omega)).trans ((oth _ (by omega) (by omega)).trans h.K), World.putObj_heap_same (Array.getElem?_eq_some_iff.1 hL).1⟩

theorem two_new (w : World) (x y : Value) (t : TypeId) : ∀ j u, [x, y][j]? = some u → (w.alloc (.cells #[x, y] t)).cell? ((⟨w.heap.size, 0, none⟩ : Addr).add j) = some u := by
  intro j u hj
  match j, hj with
  | 0, hj =>
    simp at hj
    subst hj
    simp [Addr.add]
  | 1, hj =>
    simp at hj
    subst hj
    simp [Addr.add]
  | j + 2, hj => simp at hj

/-- Behind an append to what was parsed: what lay below lies as it lay. -/
theorem Mid.low {w0 : World} {fn : FuncId} {s : ByteArray} {q : Value} {st : LoopState} {acc : List (Int × Int)} {rest : ByteArray} {W w1 : World} {v : Value} {tmp : Obj} (h : Mid w0 fn s q st acc rest W)
    (hrow : W.ownsRow (w0.heap.size + 8) 25 2 v acc.length (cellsOf acc)) (hg : (W.alloc tmp).grownBy w1 v.ownBlock) : ∀ k, k < w0.heap.size + 8 → w1.heap[k]? = W.heap[k]? := by
  intro k hk
  have hb := h.big
  refine (hg.block k (by simp; omega) fun e => ?_).trans (Below.heap_alloc _ _ _ (by omega))
  have := (hrow.lt k e.symm).1
  omega
theorem Mid.boxed {w0 : World} {fn : FuncId} {s : ByteArray} {q : Value} {st : LoopState} {acc : List (Int × Int)} {rest : ByteArray} {W w1 : World} {v : Value} {tmp : Obj} (h : Mid w0 fn s q st acc rest W)
    (hbox : Boxed W (w0.heap.size + 2) 22 v) (hrow : W.ownsRow (w0.heap.size + 8) 25 2 v acc.length (cellsOf acc)) (hg : (W.alloc tmp).grownBy w1 v.ownBlock) : Boxed w1 (w0.heap.size + 2) 22 v :=
  (h.low hrow hg _ (by omega)).trans hbox
theorem Mid.app {w0 : World} {fn : FuncId} {s : ByteArray} {q : Value} {acc : List (Int × Int)} {rest : ByteArray} {W w1 : World} {v : Value} {tmp : Obj} {a b : Int} {g cap : Nat} (h : Mid w0 fn s q .busy acc rest W)
    (hbox : Boxed W (w0.heap.size + 2) 22 v) (hrow : W.ownsRow (w0.heap.size + 8) 25 2 v acc.length (cellsOf acc)) (hg : (W.alloc tmp).grownBy w1 v.ownBlock)
    (hown : w1.ownsRow (w0.heap.size + 8) 25 2 (.slice (some ⟨g, 0, none⟩) (acc.length + 1) cap) (acc.length + 1) (cellsOf acc ++ [.int .i64 a, .int .i64 b])) :
    (w1.setCell ⟨w0.heap.size + 2, 0, none⟩ (.slice (some ⟨g, 0, none⟩) (acc.length + 1) cap)).heap[w0.heap.size + 7]? = some (.loop (rec0 fn w0.heap.size s q .busy none)) ∧
    Mid w0 fn s q .ready (acc ++ [(a, b)]) rest ((w1.setCell ⟨w0.heap.size + 2, 0, none⟩ (.slice (some ⟨g, 0, none⟩) (acc.length + 1) cap)).putObj (w0.heap.size + 7) (.loop (rec0 fn w0.heap.size s q .ready none))) := by
  have hb := h.big
  have hlow := h.low hrow hg
  have hsz : W.heap.size ≤ w1.heap.size := Nat.le_trans (by simp) hg.size
  have oth : ∀ k, k < w0.heap.size + 8 → k ≠ w0.heap.size + 2 → (w1.setCell ⟨w0.heap.size + 2, 0, none⟩ (.slice (some ⟨g, 0, none⟩) (acc.length + 1) cap)).heap[k]? = W.heap[k]? := fun k h1 h2 =>
    (Below.heap_setCell _ _ _ _ h2).trans (hlow k h1)
  have hL := (oth (w0.heap.size + 7) (by omega) (by omega)).trans h.L
  have put : ∀ k, k ≠ w0.heap.size + 7 → ((w1.setCell ⟨w0.heap.size + 2, 0, none⟩ (.slice (some ⟨g, 0, none⟩) (acc.length + 1) cap)).putObj (w0.heap.size + 7) (.loop (rec0 fn w0.heap.size s q .ready none))).heap[k]? = (w1.setCell ⟨w0.heap.size + 2, 0, none⟩ (.slice (some ⟨g, 0, none⟩) (acc.length + 1) cap)).heap[k]? := fun k hk => World.putObj_heap_other hk
  have hp1 : Past w0.heap.size w0 w1 := h.past.trans ⟨hg.os, hg.output, hsz, fun k hk => hlow k (by omega)⟩
  refine ⟨hL, (hp1.set (by omega) _).put (by omega) _, by simp [World.putObj, World.setCell]; omega, (put _ (by omega)).trans ((oth _ (by omega) (by omega)).trans h.c2), (put _ (by omega)).trans ((oth _ (by omega) (by omega)).trans h.c3), ?_,
    (put _ (by omega)).trans ((oth _ (by omega) (by omega)).trans h.cs), (put _ (by omega)).trans ((oth _ (by omega) (by omega)).trans h.csep), (put _ (by omega)).trans ((oth _ (by omega) (by omega)).trans h.csave), (put _ (by omega)).trans ((oth _ (by omega) (by omega)).trans h.K), World.putObj_heap_same (Array.getElem?_eq_some_iff.1 hL).1⟩
  refine ⟨_, (put _ (by omega)).trans (setCell_block ((hlow _ (by omega)).trans hbox)), ?_, by simp⟩
  refine ⟨by rw [cellsOf_len], .inr ?_⟩
  rcases hown.2 with ⟨hn, _⟩ | ⟨g', cap', cur, he, h1, h2, h3⟩
  · cases hn
  · cases he
    refine ⟨g, cap, cur, by simp, h1, (put _ (by omega)).trans ((Below.heap_setCell _ _ _ _ (by show g ≠ w0.heap.size + 2; omega)).trans h2), ?_⟩
    rw [cellsOf_snoc]
    simpa using h3

theorem info25 : (Tryd.prog.info? 25).map (fun i => (i.zero, i.size, i.bytes)) = some (some (.agg #[.int .i64 0, .int .i64 0]), 2, 16) := by kernel_rfl
theorem under22 : Tryd.prog.underlying 22 = some (.slice 25) := by kernel_rfl

section
variable {K : PureK} {num : List UInt8 → Int × Bool} (hT : Told K num) {s0 : St} (hok : Ok X s0) (hH : s0.H = []) {fn : FuncId} {s : ByteArray} {q : Value}
include hT hok hH
set_option maxHeartbeats 1000000 in
theorem round_in (hfn : True) (p : List UInt8) (hp : p.length ≤ 2000) (acc : List (Int × Int)) (rest : ByteArray) (W : World) (hacc : acc.length ≤ 5000) (h : Mid s0.w fn s q .ready acc rest W) :
    RoundIn Fence.wide 9 Tryd.prog (s0.w.heap.size + 7) fn ((rec0 fn s0.w.heap.size s q .ready none).tmps.setIfInBounds 18 (.string (bs p))) asg bod W
      fun e W' => (∃ x, stepP num p = some x ∧ e = .returned (.bool true) ∧ Mid s0.w fn s q .ready (acc ++ [x]) rest W') ∨ (stepP num p = none ∧ e = .returned (.bool false) ∧ Fail s0.w fn s q W') := by
  refine roundIn_of_wpIn trivial ?_
  have hbr := run_beginRound (P := Tryd.prog) h.L rfl
  have hM : Mid s0.w fn s q .busy acc rest (W.putObj (s0.w.heap.size + 7) (.loop (rec0 fn s0.w.heap.size s q .busy none))) := h.turn
  simp only [rec0, List.setIfInBounds_toArray, List.set_cons_succ, List.set_cons_zero]
  simp only [asg, bod, Tryd.f18, rfIn]
  gi_wp2
  refine ⟨_, hbr, ?_⟩
  rw [show ({ rec0 fn s0.w.heap.size s q .ready none with state := .busy } : Loop) = rec0 fn s0.w.heap.size s q .busy none from rfl]
  generalize W.putObj (s0.w.heap.size + 7) (.loop (rec0 fn s0.w.heap.size s q .busy none)) = W1 at hM
  have h1 : 1 ≤ 9 := by omega
  obtain ⟨i0, hi, hz0, hz1, hz2⟩ := info_parts info25
  gi_wp2_with (first
    | (refine ⟨trivial, ?_⟩; gi_at_call 31; refine (CallsIn.inRound (s0.w.heap.size + 7) (callsIn_wide.2 (cut_mid hT hok hH hM p hp))).mono ?_; clear hM; rintro e w' ⟨rfl, hM⟩)
    | (refine ⟨trivial, ?_⟩; gi_at_call 32; refine (CallsIn.inRound (s0.w.heap.size + 7) (callsIn_wide.2 (num_mid hT hok hH hM _ (by first | exact cut_len1 hp | exact cut_len2 hp)))).mono ?_; clear hM; rintro e w' ⟨rfl, hM⟩;
        obtain ⟨hc2, hf2⟩ := hM.cell2; obtain ⟨hc3, hf3⟩ := hM.cell3; obtain ⟨v, hbox, hrow, hnil⟩ := hM.row; have hcb := hbox.cell; have hfb := hbox.frozen)
    | (gi_at_builtin; refine wpListIn_append_own _ rfl _ _ 22 rfl (s0.w.heap.size + 8) 25 i0 _ 2 16 under22 hi hz0 hz1 hz2 rfl (by decide) _ _ _ rfl (hrow.alloc _) ⟨w'.heap.size, 0, none⟩ 1 1 [.int .i64 _, .int .i64 _] rfl rfl (two_new _ _ _ _)
        (by simp [Value.oneCell']) (by unfold maxLen; omega) (by omega) (by have := hM.big; simp; omega) ?_; intro v' w1 hown' hgrow _; obtain ⟨g', cap', rfl⟩ := ownsRow_succ hown'; have hbx := hM.boxed hbox hrow hgrow; have hcx := hbx.cell; have hfx := hbx.frozen))
  all_goals first
    | (refine ⟨_, _, run_endRound none (hM.app hbox hrow hgrow hown').1, .inl ⟨_, ?_, rfl, (hM.app hbox hrow hgrow hown').2⟩⟩; clear hbr hcx hfx hcb hfb hc2 hc3 hf2 hf3 hM; simp_all [stepP]; done)
    | (refine ⟨_, _, run_endRound (some .ret) hM.fail.1, .inr ⟨?_, rfl, hM.fail.2⟩⟩; clear hbr hcb hfb hc2 hc3 hf2 hf3 hM; simp_all [stepP]; done)
    | trace_state

end
theorem Mid.cells {w0 : World} {fn : FuncId} {s : ByteArray} {q : Value} {st : LoopState} {acc : List (Int × Int)} {rest : ByteArray} {W : World} (h : Mid w0 fn s q st acc rest W) :
    W.cell? ⟨w0.heap.size + 3, 0, none⟩ = some (.string rest) ∧ W.frozen? ⟨w0.heap.size + 3, 0, none⟩ = false ∧ W.cell? ⟨w0.heap.size + 4, 0, none⟩ = some (.string ⟨#[44]⟩) ∧ W.cell? ⟨w0.heap.size + 5, 0, none⟩ = some (.int .i64 0) := by
  simp [World.cell?, World.frozen?, h.cs, h.csep, h.csave]
def restLen (n0 : Nat) (W : World) : Nat := match W.cell? ⟨n0 + 3, 0, none⟩ with
  | some (.string s) => s.size
  | _ => 0

/-- The iterator's own text turns. -/
theorem Mid.setRest {w0 : World} {fn : FuncId} {s : ByteArray} {q : Value} {st : LoopState} {acc : List (Int × Int)} {rest rest' : ByteArray} {W : World} (h : Mid w0 fn s q st acc rest W) :
    Mid w0 fn s q st acc rest' (W.setCell ⟨w0.heap.size + 3, 0, none⟩ (.string rest')) := by
  have hb := h.big
  have oth : ∀ k, k ≠ w0.heap.size + 3 → (W.setCell ⟨w0.heap.size + 3, 0, none⟩ (.string rest')).heap[k]? = W.heap[k]? := fun k h1 => Below.heap_setCell _ _ _ _ h1
  refine ⟨h.past.set (by omega) _, by simpa [World.setCell] using h.big, (oth _ (by omega)).trans h.c2, (oth _ (by omega)).trans h.c3, ?_, setCell_block h.cs, (oth _ (by omega)).trans h.csep, (oth _ (by omega)).trans h.csave, (oth _ (by omega)).trans h.K, (oth _ (by omega)).trans h.L⟩
  obtain ⟨v, h1, h2, h3⟩ := h.row
  refine ⟨v, (oth _ (by omega)).trans h1, ⟨h2.1, ?_⟩, h3⟩
  rcases h2.2 with hn | ⟨g, cap, cur, rfl, hb', hgg, rest⟩
  · exact .inl hn
  · exact .inr ⟨g, cap, cur, rfl, hb', (oth _ (by omega)).trans hgg, rest⟩
theorem Mid.restLen {w0 : World} {fn : FuncId} {s : ByteArray} {q : Value} {st : LoopState} {acc : List (Int × Int)} {rest : ByteArray} {W : World} (h : Mid w0 fn s q st acc rest W) : restLen w0.heap.size W = rest.size := by
  unfold YtckbjhmiopjlkaaDoor.restLen
  rw [h.cells.1]
theorem ext_to (l : List UInt8) (n : Nat) : (bs l).extract 0 n = bs (l.take n) := by
  have h : ((bs l).extract 0 n).data.toList = l.take n := by simp [bs, ByteArray.data_extract]
  rw [← bs_eta ((bs l).extract 0 n), h]
theorem ext_from (l : List UInt8) (m n : Nat) (hn : l.length ≤ n) : (bs l).extract m n = bs (l.drop m) := by
  have h : ((bs l).extract m n).data.toList = l.drop m := by
    simp [bs, ByteArray.data_extract]
    exact List.take_of_length_le (by simp; omega)
  rw [← bs_eta ((bs l).extract m n), h]
theorem wrap_len {n : Nat} (h : n ≤ 5000) : wrap64 (n : Int) = n := by unfold wrap64; omega
theorem Mid.yield {w0 : World} {fn : FuncId} {s : ByteArray} {q : Value} {acc : List (Int × Int)} {rest : ByteArray} {W : World} (h : Mid w0 fn s q .ready acc rest W) (x : ByteArray) :
    (Instr.yield (w0.heap.size + 7) #[.string x]).run Tryd.prog W = .ok (.round (w0.heap.size + 7) fn ((rec0 fn w0.heap.size s q .ready none).tmps.setIfInBounds 18 (.string x)) asg bod) W := by
  have := run_yield (P := Tryd.prog) (args := #[.string x]) h.L rfl
  simpa [rec0] using this

section
variable {K : PureK} {num : List UInt8 → Int × Bool} (hT : Told K num) {s0 : St} (hok : Ok X s0) (hH : s0.H = []) {fn : FuncId} {s : ByteArray} {q : Value}
include hT hok hH
set_option maxHeartbeats 1000000 in
theorem iter_in (s1 : List UInt8) (hs : s1.length ≤ 2000) (W : World) (h : Mid s0.w fn s q .ready [] (bs s1) W) :
    CallsIn Fence.wide 10 Tryd.prog 50 #[.func (.yield (s0.w.heap.size + 7)) #[] #[], .pointer (some ⟨s0.w.heap.size + 4, 0, none⟩), .pointer (some ⟨s0.w.heap.size + 3, 0, none⟩), .pointer (some ⟨s0.w.heap.size + 5, 0, none⟩)] W
      fun e W' => (∃ v, e = .returned v) ∧ ((∃ out rest, goP num (splitL 44 s1) [] = some out ∧ Mid s0.w fn s q .ready out rest W') ∨ (goP num (splitL 44 s1) [] = none ∧ Fail s0.w fn s q W')) := by
  refine callsIn_of_wp Tryd.func50 rfl trivial ?_ rfl
  simp only [Tryd.ntmps50, List.size_toArray, List.length_cons, List.length_nil, Nat.reduceAdd, Nat.reduceSub, Array.replicate_succ, Array.replicate_zero, List.push_toArray, List.append_toArray, List.nil_append, List.cons_append]
  obtain ⟨k1, k2, k3, k4⟩ := h.cells
  gi_wp2
  clear k1 k2 k3 k4
  gi_loopw [] (fun wr => ∃ (acc : List (Int × Int)) (rest : List UInt8), Mid s0.w fn s q .ready acc (bs rest) wr ∧ goP num (splitL 44 s1) [] = goP num (splitL 44 rest) acc ∧ acc.length + rest.length ≤ 2000) (fun wr => restLen s0.w.heap.size wr)
  case atStart => exact ⟨[], s1, h, rfl, by simpa using hs⟩
  case round =>
    obtain ⟨acc, rest, hM, hgo, hlen⟩ := hrel
    obtain ⟨k1, k2, k3, k4⟩ := hM.cells
    have hI := idx_mid hT hok hH hM rest (by omega)
    by_cases hm : 44 ∈ rest
    · obtain ⟨a, b, rfl, ha⟩ := mem_split hm
      rw [firstIdx_at ha] at hI
      have hal : a.length ≤ 2000 := by simp at hlen; omega
      have hw := wrap_len (n := a.length) (by omega)
      have hsp := splitL_at 44 b ha
      rw [hsp] at hgo
      have hr0 := hM.restLen
      have hsz : ((bs (a ++ 44 :: b)).size : Int) = a.length + 1 + b.length := by rw [bs_size]; simp; omega
      have h0 : 0 ≤ (a.length : Int) := by omega
      have hle : (a.length : Int) ≤ ((bs (a ++ 44 :: b)).size : Int) := by omega
      have hw1 : wrap64 ((a.length : Int) + 1) = (a.length : Int) + 1 := wrap_len (n := a.length + 1) (by omega)
      have h01 : 0 ≤ (a.length : Int) + 1 := by omega
      have hle1 : (a.length : Int) + 1 ≤ ((bs (a ++ 44 :: b)).size : Int) := by omega
      gi_wp2_with (refine ⟨trivial, ?_⟩; gi_at_call 52; refine (callsIn_wide.2 hI).mono ?_; clear hI hM k1 k2 k3 k4; rintro e w' ⟨rfl, hM⟩; obtain ⟨k1, k2, k3, k4⟩ := hM.cells; have hy := hM.yield ((bs (a ++ 44 :: b)).extract 0 a.length))
      · have hcut : (bs (a ++ 44 :: b)).extract 0 a.length = bs a := by rw [ext_to]; simp
        rw [hcut] at hy ⊢
        refine (round_in hT hok hH trivial a hal acc _ w' (by omega) hM).mono ?_
        rintro e W3 (⟨x, hx, rfl, hM3⟩ | ⟨hx, rfl, hF⟩)
        · clear k1 k2 k3 k4 hy
          obtain ⟨k1, k2, k3, k4⟩ := hM3.cells
          gi_wp2
          have hd : (bs (a ++ 44 :: b)).extract (a.length + 1) (bs (a ++ 44 :: b)).size = bs b := by
            rw [ext_from _ _ _ (by rw [bs_size]; exact Nat.le_refl _)]
            congr 1
            rw [show a ++ 44 :: b = (a ++ [44]) ++ b by simp, List.drop_append_of_le_length (by simp)]
            simp
          rw [hd]
          have hM4 := hM3.setRest (rest' := bs b)
          refine ⟨⟨acc ++ [x], b, hM4, ?_, ?_⟩, ?_⟩
          · rw [hgo]; simp [goP, hx]
          · simp at hlen ⊢; omega
          · rw [hr0, hM4.restLen, bs_size, bs_size]; simp; omega
        · gi_wp2
          refine bodyPost_ret (results_none rfl _ _ _) rfl ⟨⟨_, rfl⟩, .inr ⟨?_, hF⟩⟩
          rw [hgo]
          simp [goP, hx]
    · rw [firstIdx_no hm] at hI
      rw [splitL_no 44 hm] at hgo
      gi_wp2_with (refine ⟨trivial, ?_⟩; gi_at_call 52; refine (callsIn_wide.2 hI).mono ?_; clear hI hM k1 k2 k3 k4; rintro e w' ⟨rfl, hM⟩; obtain ⟨k1, k2, k3, k4⟩ := hM.cells; have hy := hM.yield (bs rest))
      refine (round_in hT hok hH trivial rest (by omega) acc _ w' (by omega) hM).mono ?_
      rintro e W3 (⟨x, hx, rfl, hM3⟩ | ⟨hx, rfl, hF⟩)
      · gi_wp2
        go_end0
        refine ⟨⟨_, rfl⟩, .inl ⟨_, _, ?_, hM3⟩⟩
        rw [hgo]
        simp [goP, hx]
      · gi_wp2
        go_end0
        refine ⟨⟨_, rfl⟩, .inr ⟨?_, hF⟩⟩
        rw [hgo]
        simp [goP, hx]

end
theorem goP_len {num : List UInt8 → Int × Bool} : ∀ {ps : List (List UInt8)} {acc out : List (Int × Int)}, goP num ps acc = some out → out.length = acc.length + ps.length
  | [], acc, out, h => by simp [goP] at h; simp [h]
  | p :: ps, acc, out, h => by
    unfold goP at h
    split at h
    · cases h
    · have := goP_len h
      simp at this ⊢
      omega
theorem cellsOf_get : ∀ (l : List (Int × Int)) (i : Nat) (x : Int × Int), l[i]? = some x → (cellsOf l)[i * 2]? = some (.int .i64 x.1) ∧ (cellsOf l)[i * 2 + 1]? = some (.int .i64 x.2)
  | [], i, x, h => by simp at h
  | y :: l, 0, x, h => by simp at h; subst h; simp [cellsOf]
  | y :: l, i + 1, x, h => by
    have := cellsOf_get l i x (by simpa using h)
    rw [show (i + 1) * 2 = i * 2 + 2 by omega]
    simpa [cellsOf] using this
def rowsOf (l : List (Int × Int)) : List AV := l.map fun x => .agg [iv x.1, iv x.2]
theorem rel_rows {s : St} {base g cap : Nat} {l : List (Int × Int)} (h : s.w.ownsRow base 25 2 (.slice (some ⟨g, 0, none⟩) l.length cap) l.length (cellsOf l)) (hp : ¬ s.Priv g) :
    Rel s (.lst 2 false (rowsOf l)) (.slice (some ⟨g, 0, none⟩) l.length cap) := by
  have hlen : (rowsOf l).length = l.length := by simp [rowsOf]
  have hcap : l.length ≤ cap := by
    rcases h.2 with ⟨h, _⟩ | ⟨g', cap', cur, he, _, _, hc, _⟩
    · cases h
    · cases he; exact hc
  have hg : g < s.w.heap.size := (h.lt g rfl).2
  have := Rel.lst (s := s) 2 (rowsOf l) g 0 cap (fun i j => (cellsOf l)[i * 2 + j]?.getD undef) (by omega) (fun _ => ⟨hg, hp⟩)
    (by intro r hr; simp only [rowsOf, List.mem_map] at hr; obtain ⟨x, _, rfl⟩ := hr; rfl)
    (by intro r hr; simp only [rowsOf, List.mem_map] at hr; obtain ⟨x, _, rfl⟩ := hr; rfl)
    (by intro r hr c hc; simp only [rowsOf, List.mem_map] at hr; obtain ⟨x, _, rfl⟩ := hr
        simp only [AV.cells, List.mem_cons, List.not_mem_nil, or_false] at hc
        rcases hc with rfl | rfl <;> rfl)
    (fun i j hi hj => by
      have hij : i * 2 + j < l.length * 2 := by omega
      rw [show ad g (0 + i * 2 + j) = ⟨g, i * 2 + j, none⟩ by simp [ad], h.cellAt _ hij]
      rw [List.getElem?_eq_getElem (by rw [cellsOf_len]; exact hij)]
      rfl)
    (fun i j x y hx hy => by
      simp only [rowsOf, List.getElem?_map, Option.map_eq_some_iff] at hx
      obtain ⟨z, hz, rfl⟩ := hx
      obtain ⟨h1, h2⟩ := cellsOf_get l i z hz
      match j, hy with
      | 0, hy => simp [AV.cells] at hy; subst hy; simp only [Nat.add_zero]; rw [h1]; exact .v _ rfl
      | 1, hy => simp [AV.cells] at hy; subst hy; show Rel s _ ((cellsOf l)[i * 2 + 1]?.getD undef); rw [h2]; exact .v _ rfl
      | j + 2, hy => simp [AV.cells] at hy)
  rw [hlen] at this
  exact this
theorem rel_pair {s : St} {a b : AV} {x y : Value} (h : Rel s a x) (h2 : Rel s b y) : Rel s (.tup [a, b]) (.tuple #[x, y]) :=
  .tup _ _ rfl fun j u v hu hv => by
    match j with
    | 0 => simp at hu hv; subst hu; subst hv; exact h
    | 1 => simp at hu hv; subst hu; subst hv; exact h2
    | j + 2 => simp at hu
theorem res18 {n0 : Nat} {tmps : Array Value} {W : World} {v e : Value} (h2 : tmps.getD 2 undef = .pointer (some ⟨n0, 0, none⟩)) (h3 : tmps.getD 3 undef = .pointer (some ⟨n0 + 1, 0, none⟩))
    (c2 : W.cell? ⟨n0, 0, none⟩ = some v) (c3 : W.cell? ⟨n0 + 1, 0, none⟩ = some e) : (results Tryd.f18 tmps).run Tryd.prog W = .ok (.tuple #[v, e]) W := by
  rw [Array.getD_eq_getD_getElem?] at h2 h3
  simp [results, Tryd.f18, go_sem, h2, h3, c2, c3]
theorem Mid.fin {w0 : World} {fn : FuncId} {s : ByteArray} {q : Value} {st : LoopState} {acc : List (Int × Int)} {rest : ByteArray} {W : World} (h : Mid w0 fn s q st acc rest W) (v e : Value) :
    ((W.setCell ⟨w0.heap.size, 0, none⟩ v).setCell ⟨w0.heap.size + 1, 0, none⟩ e).heap[w0.heap.size + 6]? = some (.deferred (some [])) ∧
    (((W.setCell ⟨w0.heap.size, 0, none⟩ v).setCell ⟨w0.heap.size + 1, 0, none⟩ e).putObj (w0.heap.size + 6) (.deferred none)).cell? ⟨w0.heap.size, 0, none⟩ = some v ∧
    (((W.setCell ⟨w0.heap.size, 0, none⟩ v).setCell ⟨w0.heap.size + 1, 0, none⟩ e).putObj (w0.heap.size + 6) (.deferred none)).cell? ⟨w0.heap.size + 1, 0, none⟩ = some e ∧
    Past w0.heap.size w0 (((W.setCell ⟨w0.heap.size, 0, none⟩ v).setCell ⟨w0.heap.size + 1, 0, none⟩ e).putObj (w0.heap.size + 6) (.deferred none)) ∧
    ∀ k, w0.heap.size + 8 ≤ k → (((W.setCell ⟨w0.heap.size, 0, none⟩ v).setCell ⟨w0.heap.size + 1, 0, none⟩ e).putObj (w0.heap.size + 6) (.deferred none)).heap[k]? = W.heap[k]? := by
  have hb := h.big
  have oth : ∀ k, k ≠ w0.heap.size → k ≠ w0.heap.size + 1 → ((W.setCell ⟨w0.heap.size, 0, none⟩ v).setCell ⟨w0.heap.size + 1, 0, none⟩ e).heap[k]? = W.heap[k]? := fun k h1 h2 =>
    (Below.heap_setCell _ _ _ _ h2).trans (Below.heap_setCell _ _ _ _ h1)
  have put : ∀ k, k ≠ w0.heap.size + 6 → (((W.setCell ⟨w0.heap.size, 0, none⟩ v).setCell ⟨w0.heap.size + 1, 0, none⟩ e).putObj (w0.heap.size + 6) (.deferred none)).heap[k]? = ((W.setCell ⟨w0.heap.size, 0, none⟩ v).setCell ⟨w0.heap.size + 1, 0, none⟩ e).heap[k]? := fun k hk => World.putObj_heap_other hk
  have e2 := (put w0.heap.size (by omega)).trans ((Below.heap_setCell _ _ _ _ (by simp)).trans (setCell_block h.c2))
  have e3 := (put (w0.heap.size + 1) (by omega)).trans (setCell_block ((Below.heap_setCell _ _ _ _ (by simp)).trans h.c3))
  refine ⟨(oth _ (by omega) (by omega)).trans h.K, ?_, ?_, ((h.past.set (Nat.le_refl _) _).set (by omega) _).put (by omega) _, fun k hk => (put _ (by omega)).trans (oth _ (by omega) (by omega))⟩
  · simp only [World.cell?, e2]; rfl
  · simp only [World.cell?, e3]; rfl
section
variable {K : PureK} {num : List UInt8 → Int × Bool} (hT : Told K num) {s0 : St} (hok : Ok X s0) (hH : s0.H = []) {fn : FuncId} {s : ByteArray} {q : Value}
include hT hok hH

/-- What Parse answers. -/
def parseV (num : List UInt8 → Int × Bool) (s : List UInt8) : AV :=
  if s.length > 2000 then .tup [.lst 2 true [], iv 4] else
  match goP num (splitL 44 s) [] with
  | none => .tup [.lst 2 true [], iv 3]
  | some acc => if acc.length > 60 then .tup [.lst 2 true [], iv 4] else .tup [.lst 2 false (rowsOf acc), iv 0]

set_option maxHeartbeats 1000000 in
theorem parse_in (s1 : List UInt8) :
    CallsIn Fence.wide 11 Tryd.prog 18 #[.string (bs s1)] s0.w fun e W' => ∃ cv, e = .returned cv ∧ Past s0.w.heap.size s0.w W' ∧ Rel { s0 with w := W' } (parseV num s1) cv := by
  refine callsIn_of_wp_marks Tryd.func18 rfl trivial ?_ rfl
  simp only [Tryd.ntmps18, List.size_toArray, List.length_cons, List.length_nil, Nat.reduceAdd, Nat.reduceSub, Array.replicate_succ, Array.replicate_zero, List.push_toArray, List.append_toArray, List.nil_append, List.cons_append]
  have h1 : 1 ≤ 11 := by omega
  gi_wp2_with (refine ⟨trivial, ?_⟩; gi_at_call 30; refine (SplitSeq_in Fence.wide (11 - 1) (fun _ => trivial) rfl (by omega) _ _ _).mono ?_; rintro e w' ⟨rfl, rfl⟩)
  · rename_i hbig
    refine ⟨_, res18 (n0 := s0.w.heap.size) rfl rfl (v := .slice none 0 0) (e := .int .i64 4) ?_ ?_, _, rfl, ?_, ?_⟩
    · simp
    · simp
    · exact Past.of_below (((Below.refl _ _).alloc (Nat.le_refl _) _).alloc (by simp) _)
    · unfold parseV
      rw [if_pos (by rw [bs_size] at hbig; omega)]
      exact rel_pair (.nil 2) (.v _ rfl)
  · have hsmall : ((bs s1).size : Int) ≤ 2000 := by assumption
    have hs1 : s1.length ≤ 2000 := by rw [bs_size] at hsmall; omega
    refine wpIn_rangeFunc ?_
    intro fn hfn
    obtain ⟨V, hV⟩ : ∃ V, ((s0.w.alloc (.cells #[.slice none 0 0] 22)).alloc (.cells #[.int .i64 0] 36)).alloc (.cells #[.slice none 0 0] 22) = V := ⟨_, rfl⟩
    have hVs : V.heap.size = s0.w.heap.size + 3 := by rw [← hV]; simp
    obtain ⟨W0, hW0⟩ : ∃ W0, seqW V (bs s1) ⟨#[44]⟩ 0 = W0 := ⟨_, rfl⟩
    have hs0 : W0.heap.size = s0.w.heap.size + 6 := by rw [← hW0]; unfold seqW; simp [hVs]
    rw [hV, hW0]
    obtain ⟨q, hq⟩ : ∃ q, seqV V = q := ⟨_, rfl⟩
    rw [hq]
    have hq2 : q = .func (.func 50) #[] #[.pointer (some ⟨s0.w.heap.size + 4, 0, none⟩), .pointer (some ⟨s0.w.heap.size + 3, 0, none⟩), .pointer (some ⟨s0.w.heap.size + 5, 0, none⟩)] := by rw [← hq]; unfold seqV; rw [hVs]
    have he := run_enterLoop_outer (P := Tryd.prog) (w := W0) fn (rec0 fn s0.w.heap.size (bs s1) q .ready none).tmps #[18] asg bod
    rw [hs0] at he
    obtain ⟨W1, hW1⟩ : ∃ W1, (W0.alloc (.deferred (some []))).alloc (.loop (rec0 fn s0.w.heap.size (bs s1) q .ready none)) = W1 := ⟨_, rfl⟩
    have hM : Mid s0.w fn (bs s1) q .ready [] (bs s1) W1 := by
      have hheap : W1.heap = (((((((s0.w.heap.push (.cells #[.slice none 0 0] 22)).push (.cells #[.int .i64 0] 36)).push (.cells #[.slice none 0 0] 22)).push (.cells #[.string (bs s1)] 9)).push (.cells #[.string ⟨#[44]⟩] 9)).push (.cells #[.int .i64 0] 3)).push (.deferred (some []))).push (.loop (rec0 fn s0.w.heap.size (bs s1) q .ready none)) := by
        rw [← hW1, ← hW0, ← hV]; rfl
      have hP : Past s0.w.heap.size s0.w W1 := by
        refine ⟨by rw [← hW1, ← hW0, ← hV]; rfl, by rw [← hW1, ← hW0, ← hV]; rfl, by rw [hheap]; simp; omega, fun k hk => ?_⟩
        rw [hheap]
        simp only [Array.getElem?_push, Array.size_push]
        repeat rw [if_neg (by omega)]
      refine ⟨hP, by rw [hheap]; simp, ?_, ?_, ⟨.slice none 0 0, ?_, World.ownsRow_nil _ _ _ _, by simp⟩, ?_, ?_, ?_, ?_, ?_⟩ <;> (try unfold Boxed) <;> rw [hheap] <;> simp only [Array.getElem?_push, Array.size_push] <;> repeat (first | rw [if_pos rfl] | rw [if_pos trivial] | rw [if_neg (by omega)])
    refine ⟨s0.w.heap.size + 7, [{ target := .collected (s0.w.heap.size + 6), args := #[] }], W1, { target := .fn (.func 50) #[.pointer (some ⟨s0.w.heap.size + 4, 0, none⟩), .pointer (some ⟨s0.w.heap.size + 3, 0, none⟩), .pointer (some ⟨s0.w.heap.size + 5, 0, none⟩)], args := #[.func (.yield (s0.w.heap.size + 7)) #[] #[]] }, W1, 50,
      #[.func (.yield (s0.w.heap.size + 7)) #[] #[], .pointer (some ⟨s0.w.heap.size + 4, 0, none⟩), .pointer (some ⟨s0.w.heap.size + 3, 0, none⟩), .pointer (some ⟨s0.w.heap.size + 5, 0, none⟩)], W1, ?_, ?_, ?_, ?_, fun _ => by omega, ?_⟩
    · rw [← hW1]; exact he
    · rw [hq2]; simp [resolve, go_sem]
    · intro f' hf'; trivial
    · simp [invoke, go_sem]
    · refine (iter_in hT hok hH s1 hs1 W1 hM).mono ?_
      rintro e W2 ⟨⟨v, rfl⟩, ⟨out, rest, hgo, h2⟩ | ⟨hgo, hF⟩⟩
      · have hend := run_endLoop (P := Tryd.prog) h2.L (by simp [rec0])
        have hM3 : Mid s0.w fn (bs s1) q .exhausted out rest (W2.putObj (s0.w.heap.size + 7) (.loop (rec0 fn s0.w.heap.size (bs s1) q .exhausted none))) := h2.turn
        refine ⟨none, W2.putObj (s0.w.heap.size + 7) (.loop (rec0 fn s0.w.heap.size (bs s1) q .exhausted none)), hend, ?_⟩
        generalize W2.putObj (s0.w.heap.size + 7) (.loop (rec0 fn s0.w.heap.size (bs s1) q .exhausted none)) = W3 at hM3
        obtain ⟨v3, hbox, hrow, hnil⟩ := hM3.row
        have hlen : out.length = (splitL 44 s1).length := by simpa using goP_len hgo
        have hpos : 0 < out.length := by rw [hlen]; exact List.length_pos_iff.2 (splitL_ne _ _)
        clear hlen
        obtain ⟨g, cap, rfl⟩ : ∃ g cap, v3 = .slice (some ⟨g, 0, none⟩) out.length cap := by
          rcases hrow.2 with ⟨_, hn⟩ | ⟨g, cap, cur, h, _⟩
          · omega
          · exact ⟨g, cap, h⟩
        have hcb := hbox.cell
        obtain ⟨hc2, hf2⟩ := hM3.cell2
        obtain ⟨hc3, hf3⟩ := hM3.cell3
        have hg8 := (hrow.lt g rfl).1
        gi_wp2
        · have hlong : (60 : Int) < (out.length : Int) := by assumption
          obtain ⟨f1, f2, f3, f4, f5⟩ := hM3.fin (.slice none 0 0) (.int .i64 4)
          refine ⟨by simp, .inl ⟨_, _, rfl, run_takeDeferred f1, ?_⟩⟩
          refine ⟨_, res18 (n0 := s0.w.heap.size) rfl rfl f2 f3, _, rfl, f4, ?_⟩
          unfold parseV
          rw [if_neg (by omega), hgo]
          simp only []
          rw [if_pos (by omega)]
          exact rel_pair (.nil 2) (.v _ rfl)
        · have hlong : (out.length : Int) ≤ 60 := by assumption
          obtain ⟨f1, f2, f3, f4, f5⟩ := hM3.fin (.slice (some ⟨g, 0, none⟩) out.length cap) (.int .i64 0)
          refine ⟨by simp, .inl ⟨_, _, rfl, run_takeDeferred f1, ?_⟩⟩
          refine ⟨_, res18 (n0 := s0.w.heap.size) rfl rfl f2 f3, _, rfl, f4, ?_⟩
          unfold parseV
          rw [if_neg (by omega), hgo]
          simp only []
          rw [if_neg (by omega)]
          refine rel_pair (rel_rows (base := s0.w.heap.size + 8) (cap := cap) ⟨hrow.1, ?_⟩ ?_) (.v _ rfl)
          · rcases hrow.2 with ⟨hn, _⟩ | ⟨g', cap', cur, he, hb', hgg, hrest⟩
            · cases hn
            · cases he
              exact .inr ⟨g, cap, cur, rfl, hb', (f5 _ hb').trans hgg, hrest⟩
          · rintro (⟨i, o, ho, _⟩ | hm)
            · rw [show ({ s0 with w := _ } : St).H = s0.H from rfl, hH] at ho; simp at ho
            · have := hok.maskLt g hm
              omega
      · have hend := run_endLoop (P := Tryd.prog) hF.L (by simp [rec0])
        refine ⟨some .ret, W2.putObj (s0.w.heap.size + 7) (.loop (rec0 fn s0.w.heap.size (bs s1) q .exhausted (some .ret))), hend, ?_⟩
        have hb := hF.big
        have put : ∀ k, k ≠ s0.w.heap.size + 7 → (W2.putObj (s0.w.heap.size + 7) (.loop (rec0 fn s0.w.heap.size (bs s1) q .exhausted (some .ret)))).heap[k]? = W2.heap[k]? := fun k hk => World.putObj_heap_other hk
        have hP := hF.past.put (l := s0.w.heap.size + 7) (by omega) (.loop (rec0 fn s0.w.heap.size (bs s1) q .exhausted (some .ret)))
        have c2 := (put s0.w.heap.size (by omega)).trans hF.c2
        have c3 := (put (s0.w.heap.size + 1) (by omega)).trans hF.c3
        have hK := (put (s0.w.heap.size + 6) (by omega)).trans hF.K
        generalize W2.putObj (s0.w.heap.size + 7) (.loop (rec0 fn s0.w.heap.size (bs s1) q .exhausted (some .ret))) = W3 at hP c2 c3 hK
        gi_wp2
        refine ⟨by simp, .inl ⟨_, _, rfl, run_takeDeferred hK, ?_⟩⟩
        refine ⟨_, res18 (n0 := s0.w.heap.size) rfl rfl (v := .slice none 0 0) (e := .int .i64 3) ?_ ?_, _, rfl, hP.put (by omega) _, ?_⟩
        · simp only [World.cell?, (World.putObj_heap_other (show s0.w.heap.size ≠ s0.w.heap.size + 6 by omega)).trans c2]; rfl
        · simp only [World.cell?, (World.putObj_heap_other (show s0.w.heap.size + 1 ≠ s0.w.heap.size + 6 by omega)).trans c3]; rfl
        · unfold parseV
          rw [if_neg (by omega), hgo]
          exact rel_pair (.nil 2) (.v _ rfl)
end

theorem parse_pure {K : PureK} {num : List UInt8 → Int × Bool} (hT : Told K num) (s1 : List UInt8) : PureCall X f_uids_Parse [sv (bs s1)] (parseV num s1) := by
  refine pure_of_calls Tryd.func18 rfl (by kernel_rfl) ?_ fun s hok hH cs hr => ?_
  · unfold parseV
    split
    · rfl
    · split
      · rfl
      · split <;> rfl
  · obtain rfl := rels_v1 hr
    exact callsIn_wide.1 (parse_in hT hok hH s1)
end Go.Proofs.YtckbjhmiopjlkaaDoor
