import Derived.Test.YtckbjhmiopjlkaaDoorCtx
import Derived.Test.YtckbjhmiopjlkaaDoorShelfNm
import Derived.Test.YtckbjhmiopjlkaaDoorAbRow
import Derived.Test.YtckbjhmiopjlkaaDoorAbPure
set_option linter.unusedVariables false
set_option linter.unusedSimpArgs false
set_option maxRecDepth 100000
namespace Go.Proofs.YtckbjhmiopjlkaaDoor
/- strings.Join and strconv.Itoa, out of the shelf. -/
open Go Go.Ab Go.RowKit

theorem Builder_Extra_156 : Builder.Extra Tryd.prog Tryd.lays156_ren where
  sizeBuilder := by kernel_rfl
  liesBuilder := by kernel_rfl
  t5 := Tryd.underlying5
  a5 := Tryd.isAgg5
  z5 := Tryd.sizeOf5
  v5 := Tryd.zeroValue5
  infoByte := by kernel_rfl
  cellsByte := by kernel_rfl
  sizeByte := by kernel_rfl
  neB5 := by decide

def svs (l : List ByteArray) : List AV := l.map fun s => sv s
def strOf : AV → Option ByteArray
  | .v (.string s) => some s
  | _ => none
def strsOf : List AV → Option (List ByteArray)
  | [] => some []
  | x :: xs => match strOf x with
    | some p => match strsOf xs with
      | some ps => some (p :: ps)
      | none => none
    | none => none
theorem strsOf_svs : ∀ l, strsOf (svs l) = some l
  | [] => rfl
  | x :: l => by
    show strsOf (sv x :: svs l) = _
    simp only [strsOf, strOf, strsOf_svs l]
theorem strOf_some {x : AV} {p : ByteArray} (h : strOf x = some p) : x = sv p := by
  unfold strOf at h
  split at h
  · cases h; rfl
  · cases h
theorem svs_of_strs : ∀ {rows : List AV} {l : List ByteArray}, strsOf rows = some l → rows = svs l
  | [], l, h => by cases h; rfl
  | x :: xs, l, h => by
    unfold strsOf at h
    split at h
    · rename_i p hp
      split at h
      · rename_i ps hps
        cases h
        rw [strOf_some hp, svs_of_strs hps]
        rfl
      · cases h
    · cases h
theorem svs_len (l : List ByteArray) : (svs l).length = l.length := by simp [svs]
theorem svs_get (l : List ByteArray) (i : Nat) (h : i < l.length) : (svs l)[i]? = some (sv l[i]) := by simp [svs, h]

def joinL (l : List ByteArray) (sep : ByteArray) : List UInt8 := Lib.join (l.map (·.data.toList)) sep.data.toList
def e_Join : List AV → Option AV
  | [.lst 1 b rows, .v (.string sep)] => match strsOf rows with
    | some l => br (decide (l.length ≤ 100000) && decide ((joinL l sep).length ≤ 100000000)) (some (sv ⟨(joinL l sep).toArray⟩)) none
    | none => none
  | _ => none
theorem rels_two {s : St} {a b : AV} {cs : Array Value} (h : Rels s [a, b] cs) : ∃ x y, cs = #[x, y] ∧ Rel s a x ∧ Rel s b y := by
  obtain ⟨hn, hr⟩ := h
  have hn : cs.size = 2 := by simpa using hn
  refine ⟨cs[0], cs[1], ?_, ?_, ?_⟩
  · apply Array.ext
    · simpa using hn
    · intro i h1 h2
      match i, h1 with
      | 0, _ => rfl
      | 1, _ => rfl
      | i + 2, h => exact absurd h (by omega)
  · exact hr 0 _ _ rfl (by simp [hn])
  · exact hr 1 _ _ rfl (by simp [hn])
/-- A slice of texts, in memory. -/
theorem lst_strs {s : St} {b : Bool} {l : List ByteArray} {v : Value} (h : Rel s (.lst 1 b (svs l)) v) :
    (l = [] ∧ ∃ a c, v = .slice a 0 c) ∨ ∃ bk off cap, v = .slice (some ⟨bk, off, none⟩) l.length cap ∧ bk < s.w.heap.size ∧ l.length ≤ cap ∧ ∀ (j : Nat) z, l[j]? = some z → s.w.cell? ⟨bk, off + j, none⟩ = some (.string z) := by
  generalize hrs : svs l = rs at h
  cases h with
  | nil =>
    refine .inl ⟨?_, none, 0, rfl⟩
    cases l with
    | nil => rfl
    | cons => cases hrs
  | lst _ _ bk off cap vals hcap hpriv hes hfree hcell hcc hrr =>
    subst hrs
    cases l with
    | nil => exact .inl ⟨rfl, _, _, rfl⟩
    | cons s0 l =>
      refine .inr ⟨bk, off, cap, by rw [svs_len]; rfl, (hpriv (fun e => by cases e)).1, by rw [svs_len] at hcap; exact hcap, fun j z hz => ?_⟩
      have hj := (List.getElem?_eq_some_iff.1 hz).1
      have hg : (svs (s0 :: l))[j]? = some (sv z) := by
        rw [svs_get _ _ hj]
        obtain ⟨_, e⟩ := List.getElem?_eq_some_iff.1 hz
        rw [e]
      have h1 := hcc j 0 (by rw [svs_len]; exact hj) (by decide)
      have h2 := hrr j 0 _ _ hg (show (sv z).cells[0]? = some (sv z) from rfl)
      have h3 : vals j 0 = .string z := by
        generalize vals j 0 = q at h2
        cases h2
        rfl
      rw [h3, Nat.mul_one, Nat.add_zero] at h1
      exact h1
theorem e_Join_ok (xs : List AV) (v : AV) (h : e_Join xs = some v) : PureCall X f_strings_Join xs v := by
  unfold e_Join at h
  split at h
  · rename_i b rows sep
    split at h
    · rename_i l hl
      obtain ⟨h1, h⟩ := br_yes h
      simp only [Bool.and_eq_true, decide_eq_true_eq] at h1
      obtain ⟨h1, h2⟩ := h1
      have h3 := Option.some.inj h
      clear h
      subst h3
      obtain rfl := svs_of_strs hl
      obtain ⟨c, hc⟩ := Option.isSome_iff_exists.1 (show Tryd.f36.body.isSome = true from rfl)
      refine pure_of_calls (X := X) Tryd.func36 hc (by kernel_rfl) rfl fun st hok hH cs hr => ?_
      clear hc hl hok hH
      obtain ⟨x, y, rfl, hx, hy⟩ := rels_two hr
      cases hy
      clear hr
      have e1 : (joinL l sep).length ≤ 140737488355328 := Nat.le_trans h2 (by decide)
      have e2 : l.length ≤ 140737488355328 := Nat.le_trans h1 (by decide)
      unfold joinL at e1 ⊢
      rcases lst_strs hx with ⟨rfl, a, k, rfl⟩ | ⟨bk, off, cap, rfl, q1, q2, q3⟩
      · refine (Any.strings_Join_none Tryd.lays156 Builder_Extra_156 a k sep st.w).mono ?_
        rintro e w' ⟨rfl, rfl⟩
        exact ⟨_, rfl, Past.refl _ _, .v _ rfl⟩
      · refine (Any.strings_Join Tryd.lays156 Builder_Extra_156 bk off cap l sep st.w q3 q1 e2 q2 e1).mono ?_
        rintro e w' ⟨rfl, hb⟩
        exact ⟨_, rfl, Past.of_below hb, .v _ rfl⟩
    · cases h
  · cases h

/-- The powers of ten, as they are laid. -/
theorem tab10 {s : St} (hok : Ok X s) : Lib.TabIs Tryd.prog s.w "internal/strconv.uint64pow10" .u64 Lib.pow10Tab := by
  obtain ⟨g, hg⟩ : ∃ g, Tryd.prog.globalNamed "internal/strconv.uint64pow10" = some g := Option.isSome_iff_exists.1 (by kernel_rfl)
  have hX : X.G g = some (.agg (Lib.pow10Tab.map fun z => .v (.int .u64 z))) := by
    obtain rfl : g = (Tryd.prog.globalNamed "internal/strconv.uint64pow10").getD 0 := by rw [hg]; rfl
    kernel_rfl
  have hG := hok.glob g _ hX
  obtain ⟨hr, cur, ty, fr, hc, hn⟩ := hG
  unfold Lib.TabIs World.var?
  rw [hg]
  simp only [Option.bind_some, hc]
  congr 1
  have hn : cur.size = Lib.pow10Tab.length := by simpa [AV.cells] using hn
  generalize hv : Value.pointer (some (ad g 0)) = v at hr
  cases hr with
  | pl row off b base vals hsz hpriv hfree hcell hcc hrr =>
    injection hv with hv
    injection hv with hv
    injection hv with hb hbase _
    subst hb
    have hbase : base = 0 := by omega
    subst hbase
    apply Array.ext
    · simpa using hn
    · intro i h1 h2
      have hi : i < Lib.pow10Tab.length := by omega
      have a1 := hcc i (by simpa [AV.cells] using hi)
      have a2 := hrr i (.v (.int .u64 Lib.pow10Tab[i])) (by simp [AV.cells, hi])
      have a3 : vals i = .int .u64 Lib.pow10Tab[i] := by
        generalize vals i = q at a2
        cases a2
        rfl
      rw [a3] at a1
      have a4 : s.w.cell? (ad g (0 + i)) = cur[i]? := by
        unfold World.cell?
        rw [Nat.zero_add]
        simp [ad, hc]
      rw [a4, Array.getElem?_eq_getElem h1] at a1
      injection a1 with a1
      rw [a1]
      simp
theorem past_grow (w : World) (k : Nat) (os : Array Obj) : Past w.heap.size w (Go.«Sort».grow (w.drewN k) os) :=
  ⟨rfl, rfl, by show w.heap.size ≤ (w.heap ++ os).size; simp, fun j hj => by show (w.heap ++ os)[j]? = _; exact Array.getElem?_append_left hj⟩
def e_Itoa : List AV → Option AV
  | [.v (.int .i64 n)] => br (decide (0 ≤ n) && decide (n ≤ 9223372036854775807)) (some (sv ⟨(Lib.itoa n).toArray⟩)) none
  | _ => none
theorem e_Itoa_ok (xs : List AV) (v : AV) (h : e_Itoa xs = some v) : PureCall X f_strconv_Itoa xs v := by
  unfold e_Itoa at h
  split at h
  · rename_i n
    obtain ⟨h1, h⟩ := br_yes h
    simp only [Bool.and_eq_true, decide_eq_true_eq] at h1
    cases h
    obtain ⟨c, hc⟩ := Option.isSome_iff_exists.1 (show Tryd.f45.body.isSome = true from rfl)
    refine pure_of_calls (X := X) Tryd.func45 hc (by kernel_rfl) rfl fun st hok hH cs hr => ?_
    obtain rfl := rels_v1 hr
    refine (Any.strconv_Itoa Tryd.laysM171 n (by omega) h1.2 st.w (tab10 hok)).mono ?_
    rintro e w' ⟨rfl, k, os, rfl⟩
    exact ⟨_, rfl, past_grow _ _ _, .v _ rfl⟩
  · cases h
end Go.Proofs.YtckbjhmiopjlkaaDoor
