import Derived.Test.YtphbfkncimifoaaDoorTokTN
import Derived.Test.YtphbfkncimifoaaDoorTokL
import Derived.Test.YtphbfkncimifoaaDoorToldK56
set_option linter.unusedVariables false
set_option linter.unusedSimpArgs false
set_option maxRecDepth 100000
namespace Go.Proofs.YtphbfkncimifoaaDoor
/- Lines of plain words, and literals: what a reader tells of them. -/
open Go Go.Ab

def plainC (c : UInt8) : Bool := (decide (97 ≤ (c ||| 32).toNat) && decide ((c ||| 32).toNat ≤ 122)) || isDig c || c == 32
def plainW (w : List UInt8) : Prop := (∀ c ∈ w, plainC c = true) ∧ w.length ≤ 300
theorem plainC_ne {c : UInt8} (h : plainC c = true) : c ≠ 10 ∧ c ≠ 13 ∧ c ≠ 123 ∧ c ≠ 125 := by
  refine ⟨?_, ?_, ?_, ?_⟩ <;> rintro rfl <;> revert h <;> decide
def digs (n : Nat) : List UInt8 := [UInt8.ofNat (48 + n / 1000), UInt8.ofNat (48 + n / 100 % 10), UInt8.ofNat (48 + n / 10 % 10), UInt8.ofNat (48 + n % 10)]
theorem dig_nat {k : Nat} (h : k ≤ 9) : (UInt8.ofNat (48 + k)).toNat = 48 + k := by
  simp only [UInt8.toNat_ofNat']
  omega
theorem dig_is {k : Nat} (h : k ≤ 9) : isDig (UInt8.ofNat (48 + k)) = true := by
  unfold isDig
  rw [dig_nat h]
  simp
  omega
theorem digs_all {n : Nat} (h : n ≤ 9999) : (digs n).all isDig = true := by
  simp only [digs, List.all_cons, List.all_nil, Bool.and_true, Bool.and_eq_true]
  exact ⟨dig_is (by omega), dig_is (by omega), dig_is (by omega), dig_is (by omega)⟩
theorem digs_num {n : Nat} (h : n ≤ 9999) : numGo (digs n) 0 = n := by
  simp only [digs, numGo]
  rw [dig_nat (k := n / 1000) (by omega), dig_nat (k := n / 100 % 10) (by omega), dig_nat (k := n / 10 % 10) (by omega), dig_nat (k := n % 10) (by omega)]
  omega
theorem isDig_ne {c : UInt8} (h : isDig c = true) : c ≠ 10 ∧ c ≠ 13 ∧ c ≠ 123 ∧ c ≠ 125 := by
  refine ⟨?_, ?_, ?_, ?_⟩ <;> rintro rfl <;> revert h <;> decide
theorem digs_no {n : Nat} (h : n ≤ 9999) {c : UInt8} (hc : c = 10 ∨ c = 123) : c ∉ digs n := by
  intro hm
  have := List.all_eq_true.1 (digs_all h) c hm
  have := isDig_ne this
  rcases hc with rfl | rfl
  · exact this.1 rfl
  · exact this.2.2.1 rfl
/-- A line's end that announces. -/
theorem lit_head (w : List UInt8) {n : Nat} (h : n ≤ 2000) : litL (w ++ [32, 123] ++ digs n ++ [125]) = some (w ++ [32], (n : Int)) := by
  have hr : (w ++ [32, 123] ++ digs n ++ [125]).reverse = 125 :: ((digs n).reverse ++ 123 :: (32 :: w.reverse)) := by simp
  unfold litL
  rw [hr]
  simp only [beq_self_eq_true]
  rw [refGo_at _ _ 0 0 (by simpa using digs_no (n := n) (by omega) (c := 123) (.inr rfl))]
  have hl : (digs n).length = 4 := rfl
  rw [List.all_reverse, digs_all (by omega), List.length_reverse, hl, List.reverse_reverse, digs_num (by omega)]
  simp
theorem lit_plain {w : List UInt8} (h : ∀ c ∈ w, c ≠ 125) : litL w = none := by
  unfold litL
  cases hr : w.reverse with
  | nil => rfl
  | cons x r =>
    have : x ∈ w := by
      have : x ∈ w.reverse := by rw [hr]; exact List.mem_cons_self
      simpa using this
    simp only []
    rw [show (x == 125) = false by simpa using h x this]
/-- A text up to a line feed. -/
theorem feed_line (ps : List (List UInt8)) (x : List UInt8) (hl : x.length < 400) (hn : (10 : UInt8) ∉ x) : feedS ⟨ps, [], 0, 0⟩ (x ++ [10]) = lineS ps (cutSuf x 13) := by
  rw [feedS_app, feed_text ps 0 x [] (by simp; omega) hn]
  have ho : oneS ⟨ps, [] ++ x, 0, 0⟩ 10 = lineS ps (cutSuf x 13) := by
    unfold oneS
    simp only [List.nil_append]
    rw [if_pos (by trivial), if_neg (by omega), if_pos (by trivial)]
  simp only [feedS, ho]
  simp
def annS (p : List UInt8) (n : Nat) : TIn := if n = 0 then ⟨[p, []], [], 0, 0⟩ else ⟨[p], [], 1, n⟩
theorem cutSuf_at (x : List UInt8) (c : UInt8) : cutSuf (x ++ [c]) c = x := by
  unfold cutSuf
  rw [hasSuf_yes]
  simp
theorem cutSuf_ne (x : List UInt8) {c d : UInt8} (h : d ≠ c) : cutSuf (x ++ [d]) c = x ++ [d] := by
  unfold cutSuf
  rw [hasSuf_no x h]
theorem line_ann (w : List UInt8) {n : Nat} (h : n ≤ 2000) : lineS [] (w ++ [32, 123] ++ digs n ++ [125]) = (annS (w ++ [32]) n, [(2, [])]) := by
  unfold lineS annS
  rw [lit_head w h]
  simp only [List.length_nil, List.nil_append]
  rw [decide_eq_false (show ¬ ((n : Nat) : Int) > 2000 by omega)]
  by_cases h0 : n = 0
  · subst h0
    rfl
  · rw [if_neg h0, show (((n : Nat) : Int) == 0) = false by simp; omega]
    rfl
theorem head_sizes {w : List UInt8} (hw : plainW w) {n : Nat} (h : n ≤ 2000) : (w ++ [32, 123] ++ digs n ++ [125]).length ≤ 307 ∧ (10 : UInt8) ∉ w ++ [32, 123] ++ digs n ++ [125] := by
  refine ⟨by have := hw.2; simp [digs]; omega, fun hm => ?_⟩
  simp only [List.mem_append, List.mem_cons, List.not_mem_nil, or_false] at hm
  rcases hm with ((hm | hm | hm) | hm) | hm
  · exact (plainC_ne (hw.1 _ hm)).1 rfl
  · revert hm; decide
  · revert hm; decide
  · exact digs_no (by omega) (.inl rfl) hm
  · revert hm; decide
/-- What a word and a literal's size announce: with a carriage return, or without. -/
theorem feed_head {w : List UInt8} (hw : plainW w) {n : Nat} (h : n ≤ 2000) (cr : Bool) : feedS emptyI (w ++ [32, 123] ++ digs n ++ [125] ++ (if cr then [13, 10] else [10])) = (annS (w ++ [32]) n, [(2, [])]) := by
  obtain ⟨s1, s2⟩ := head_sizes hw h
  cases cr with
  | true =>
    rw [show (if (true : Bool) = true then ([13, 10] : List UInt8) else [10]) = [13] ++ [10] from rfl, ← List.append_assoc]
    rw [show emptyI = ⟨[], [], 0, 0⟩ from rfl, feed_line [] _ (by simp at s1 ⊢; omega) (by
      intro hm
      rcases List.mem_append.1 hm with hm | hm
      · exact s2 hm
      · revert hm; decide), cutSuf_at, line_ann w h]
  | false =>
    rw [show (if (false : Bool) = true then ([13, 10] : List UInt8) else [10]) = [10] from rfl]
    rw [show emptyI = ⟨[], [], 0, 0⟩ from rfl, feed_line [] _ (by omega) s2, cutSuf_ne _ (by decide), line_ann w h]
theorem feed_lits (p : List UInt8) (l : List UInt8) : feedS (annS p l.length) l = (⟨[p, l], [], 0, 0⟩, []) := by
  unfold annS
  cases l with
  | nil => rfl
  | cons c l =>
    rw [if_neg (by simp), feed_lit_end [p] (c :: l) [] _ rfl (by simp)]
    rfl
theorem feed_tail (ps : List (List UInt8)) (x : List UInt8) (hl : x.length < 400) (hn : ∀ c ∈ x, c ≠ 10 ∧ c ≠ 125) : feedS ⟨ps, [], 0, 0⟩ (x ++ [10]) = (emptyI, [(1, ps ++ [cutSuf x 13])]) := by
  rw [feed_line ps x hl (fun hm => (hn _ hm).1 rfl)]
  unfold lineS
  have hsub : ∀ c ∈ cutSuf x 13, c ≠ 125 := by
    intro c hc
    unfold cutSuf at hc
    split at hc
    · exact (hn c (List.dropLast_subset _ hc)).2
    · exact (hn c hc).2
  rw [lit_plain hsub]
/-- A line of the law TokenLines. -/
def lineB (w : List UInt8) (l : Option (List UInt8)) : List UInt8 := match l with
  | some l => w ++ [32, 123] ++ digs l.length ++ [125] ++ [13, 10] ++ l ++ [13, 10]
  | none => w ++ [13, 10]
def lineO (w : List UInt8) (l : Option (List UInt8)) : List TOut := match l with
  | some l => [(2, []), (1, [w ++ [32], l, []])]
  | none => [(1, [w])]
theorem feed_lineB {w : List UInt8} (hw : plainW w) (l : Option (List UInt8)) (hl : ∀ x, l = some x → x.length ≤ 2000) : feedS emptyI (lineB w l) = (emptyI, lineO w l) := by
  cases l with
  | none =>
    have h := feed_tail [] (w ++ [13]) (by have := hw.2; simp; omega) (fun c hc => by
      rcases List.mem_append.1 hc with hc | hc
      · have := plainC_ne (hw.1 c hc); exact ⟨this.1, this.2.2.2⟩
      · simp at hc; subst hc; decide)
    rw [cutSuf_at] at h
    simp only [lineB, lineO]
    rw [show w ++ [13, 10] = (w ++ [13]) ++ [10] by simp]
    exact h
  | some l =>
    have hn := hl l rfl
    have h1 := feed_head hw hn true
    rw [show (if (true : Bool) = true then ([13, 10] : List UInt8) else [10]) = [13, 10] from rfl] at h1
    have h3 := feed_tail [w ++ [32], l] [13] (by simp) (fun c hc => by simp at hc; subst hc; decide)
    simp only [lineB, lineO]
    rw [show w ++ [32, 123] ++ digs l.length ++ [125] ++ [13, 10] ++ l ++ [13, 10] = (w ++ [32, 123] ++ digs l.length ++ [125] ++ [13, 10]) ++ (l ++ ([13] ++ [10])) by simp]
    rw [feedS_app, h1, feedS_app, feed_lits, h3]
    rfl
/-- What the law TokenLiterals feeds. -/
theorem feed_literal {tag : List UInt8} (hw : plainW tag) (l : List UInt8) (hl : l.length ≤ 2000) : feedS emptyI (tag ++ [32, 123] ++ digs l.length ++ [125, 10] ++ l ++ [32, 120, 10]) = (emptyI, [(2, []), (1, [tag ++ [32], l, [32, 120]])]) := by
  have h1 := feed_head hw hl false
  rw [show (if (false : Bool) = true then ([13, 10] : List UInt8) else [10]) = [10] from rfl] at h1
  have h3 := feed_tail [tag ++ [32], l] [32, 120] (by simp) (fun c hc => by simp at hc; rcases hc with rfl | rfl <;> decide)
  rw [show tag ++ [32, 123] ++ digs l.length ++ [125, 10] ++ l ++ [32, 120, 10] = (tag ++ [32, 123] ++ digs l.length ++ [125] ++ [10]) ++ (l ++ ([32, 120] ++ [10])) by simp]
  rw [feedS_app, h1, feedS_app, feed_lits, h3]
  rfl
/- law23.plain. -/
open Go Go.Ab

theorem br_sb (c x y : Bool) : br c (some (bv x)) (some (bv y)) = some (bv (cond c x y)) := by cases c <;> rfl
def plainX (n : Int) : Bool := cond (decide (w8 ((((BitVec.ofInt 8 n ||| BitVec.ofInt 8 32).toNat : Nat) : Int)) < 97)) (cond (decide (n < 48)) (n != 32) (cond (decide (n > 57)) (n != 32) false)) (cond (decide (w8 ((((BitVec.ofInt 8 n ||| BitVec.ofInt 8 32).toNat : Nat) : Int)) > 122)) (cond (decide (n < 48)) (n != 32) (cond (decide (n > 57)) (n != 32) false)) false)
theorem plain_all : ∀ n : Fin 256, plainX ((n.1 : Nat) : Int) = !plainC (UInt8.ofNat n.1) := by decide +kernel
theorem plainX_c (c : UInt8) : plainX (c.toNat : Int) = !plainC c := by
  have h := plain_all ⟨c.toNat, c.toNat_lt⟩
  rw [UInt8.ofNat_toNat] at h
  exact h
abbrev encPl (a : List UInt8 × Nat) : Slaw23_plain_0 := .s0 (bs a.1) (a.2 : Int)
def outPl (a : List UInt8 × Nat) : Olaw23_plain_0 := match ((a.1.drop a.2).take (301 - a.2)).all plainC with
  | true => .x1 (bs a.1)
  | false => .x0 (bs a.1) false
abbrev PPl (a : List UInt8 × Nat) : Prop := a.2 ≤ a.1.length ∧ a.2 ≤ 301
theorem encPl_inj {a b : List UInt8 × Nat} (h : encPl a = encPl b) : a = b := by
  obtain ⟨l, i⟩ := a
  obtain ⟨l', i'⟩ := b
  simp [encPl, bs_inj_iff] at h
  obtain ⟨rfl, h⟩ := h
  rw [show i = i' by omega]
theorem l_Pl (K : PureK) {a : List UInt8 × Nat} (h : PPl a) : loopF (Rlaw23_plain_0 K some) encPl PPl outPl (encPl a) = some (outPl a) := by
  refine loopF_eq (fun a => 301 - a.2) ?_ (fun a b h => by rw [encPl_inj h]) h
  rintro ⟨l, i⟩ rec ⟨h1, h3⟩ hrec
  simp only [encPl, Rlaw23_plain_0, outPl] at h1 h3 hrec ⊢
  rw [bs_size]
  by_cases hi : i < l.length
  · rw [br_yesD (show (i : Int) < ((l.length : Nat) : Int) by omega)]
    simp only [optK_s, asBool_v]
    by_cases hj : i < 301
    · have hb : bt (bs l) ((i : Int)).toNat = (l[i].toNat : Int) := by rw [bt_bs, Int.toNat_natCast, List.getElem?_eq_getElem hi]; rfl
      simp only [hb]
      rw [br_yesD (show (i : Int) < 301 by omega)]
      simp only [br_yesD (show (0 : Int) ≤ (i : Int) by omega), br_yesD (show (i : Int) < ((l.length : Nat) : Int) by omega), br_sb]
      have hc := plainX_c l[i]
      unfold plainX at hc
      rw [hc]
      simp only [optK_s, asBool_v]
      rw [List.drop_eq_getElem_cons hi, show 301 - i = (301 - (i + 1)) + 1 by omega, List.take_succ_cons, List.all_cons]
      cases hp : plainC l[i] with
      | false => rfl
      | true =>
        rw [Bool.not_true, br_f, w64_id (n := (i : Int) + 1) (by omega) (by omega), Bool.true_and]
        exact hrec (l, i + 1) ⟨hi, by simp; omega⟩ (by simp; omega)
    · rw [br_noD (show ¬ (i : Int) < 301 by omega), show 301 - i = 0 by omega]
      rfl
  · rw [br_noD (show ¬ (i : Int) < ((l.length : Nat) : Int) by omega), List.drop_eq_nil_of_le (by omega)]
    simp only [List.take_nil, List.all_nil]
    rfl
def plainB (l : List UInt8) : Bool := l.all plainC && decide (l.length ≤ 300)
theorem plainB_iff {l : List UInt8} : plainB l = true ↔ plainW l := by
  unfold plainB plainW
  simp
abbrev encP1 (l : List UInt8) : List AV := [sv (bs l)]
noncomputable abbrev E_plain := callF X f_law23_plain encP1 (fun _ => True) fun l => bv (plainB l)
theorem t_plain (K : PureK) (l : List UInt8) : Rlaw23_plain K (loopF (Rlaw23_plain_0 K some) encPl PPl outPl) (bs l) = some (bv (plainB l)) := by
  unfold Rlaw23_plain
  rw [show Slaw23_plain_0.s0 (bs l) 0 = encPl (l, 0) from rfl, l_Pl K (a := (l, 0)) ⟨Nat.zero_le _, by simp⟩, optK_s]
  unfold outPl plainB
  simp only [List.drop_zero, Nat.sub_zero]
  by_cases hl : l.length ≤ 300
  · rw [List.take_of_length_le (by omega)]
    cases hc : l.all plainC with
    | true =>
      simp only [Olaw23_plain_0.k, bs_size]
      rw [decide_eq_true (show ((l.length : Nat) : Int) ≤ 300 by omega), decide_eq_true hl]
      rfl
    | false => rfl
  · rw [decide_eq_false hl, Bool.and_false]
    cases hc : (l.take 301).all plainC with
    | true =>
      simp only [Olaw23_plain_0.k, bs_size]
      rw [decide_eq_false (show ¬ ((l.length : Nat) : Int) ≤ 300 by omega)]
    | false => rfl
theorem k_plain {T : Tab} (hT : tabK T f_law23_plain = E_plain) (l : List UInt8) : tabK T f_law23_plain [sv (bs l)] = some (bv (plainB l)) := by
  rw [hT]
  exact callF_eq (g := f_law23_plain) (enc := encP1) (P := fun _ => True) (f := fun l => bv (plainB l)) (fun a h => pclaw23_plain ok_nil loopF_ok (t_plain (tabK []) a)) (fun a b h => by
    have : a = b := by simpa [encP1, bs_inj_iff] using h
    rw [this]) trivial
/- The law TokenLiterals, plain. -/
open Go Go.Ab

noncomputable def tbX : Tab := (f_law23_plain, E_plain) :: tbL
theorem tbX_ok : TabOk X tbX := tab_cons callQ_ok tbL_ok
theorem dg {k : Nat} (h : k ≤ 9) : UInt8.ofNat (w8 (w64 (48 + (k : Int)))).toNat = UInt8.ofNat (48 + k) := by
  rw [w64_id (by omega) (by omega), w8_idn (by omega) (by omega), show (48 + (k : Int)).toNat = 48 + k by omega]
theorem dig_arr {n : Nat} (h : n ≤ 2000) : ({ data := [UInt8.ofNat (w8 (w64 (48 + (((n : Nat) : Int)).tmod 10))).toNat, UInt8.ofNat (w8 (w64 (48 + (w64 ((((n : Nat) : Int)).tdiv 10)).tmod 10))).toNat, UInt8.ofNat (w8 (w64 (48 + (w64 ((((n : Nat) : Int)).tdiv 100)).tmod 10))).toNat, UInt8.ofNat (w8 (w64 (48 + w64 ((((n : Nat) : Int)).tdiv 1000)))).toNat].reverse.toArray } : ByteArray) = bs (digs n) := by
  have t1 : ((n : Nat) : Int).tdiv 10 = ((n / 10 : Nat) : Int) := (Int.ofNat_tdiv n 10).symm
  have t2 : ((n : Nat) : Int).tdiv 100 = ((n / 100 : Nat) : Int) := (Int.ofNat_tdiv n 100).symm
  have t3 : ((n : Nat) : Int).tdiv 1000 = ((n / 1000 : Nat) : Int) := (Int.ofNat_tdiv n 1000).symm
  have m0 : ∀ k : Nat, ((k : Nat) : Int).tmod 10 = ((k % 10 : Nat) : Int) := fun k => (Int.ofNat_tmod k 10).symm
  rw [t1, t2, t3, w64_id (n := ((n / 10 : Nat) : Int)) (by omega) (by omega), w64_id (n := ((n / 100 : Nat) : Int)) (by omega) (by omega), w64_id (n := ((n / 1000 : Nat) : Int)) (by omega) (by omega), m0, m0, m0, dg (by omega), dg (by omega), dg (by omega), dg (by omega)]
  rfl
theorem t_Literals (bn : Bool) (b : List UInt8) (s : List UInt8) : Rlaw23_TokenLiterals (tabK tbX) bn (uvs b) (bs s) = some (bv true) := by
  unfold Rlaw23_TokenLiterals
  rw [show tabK tbX f_law23_alive [] = some (bv true) from rfl, uvs_len]
  simp only [optK_s, asBool_v, Bool.not_true, br_f]
  by_cases c1 : b.length > 2000
  · rw [br_yesD (by omega)]
    rfl
  rw [br_noD (by omega), k_plain (T := tbX) rfl]
  simp only [optK_s, asBool_v]
  cases hp : plainB s with
  | false => rfl
  | true =>
    have hw := plainB_iff.1 hp
    have hs := hw.2
    simp only [Bool.not_true, br_f]
    rw [dig_arr (by omega)]
    rw [show ({ data := #[32, 123] } : ByteArray) = bs [32, 123] from rfl, show ({ data := #[125, 10] } : ByteArray) = bs [125, 10] from rfl, show ({ data := #[] } : ByteArray) = bs [] from rfl, show ({ data := #[32] } : ByteArray) = bs [32] from rfl, show ({ data := #[32, 120] } : ByteArray) = bs [32, 120] from rfl]
    simp only [cat_bs, bs_size]
    have hrows : ∀ x : List UInt8, bytesRows (bs x) = uvs x := bytesRows_bs
    simp only [hrows, show [uv 32, uv 120, uv 10] = uvs [32, 120, 10] from rfl, uvs_app, uvs_len]
    have hf := feed_literal hw b (by omega)
    obtain ⟨X', hX⟩ : ∃ X', X' = s ++ [32, 123] ++ digs b.length ++ [125, 10] ++ b ++ [32, 120, 10] := ⟨_, rfl⟩
    have hl : X'.length ≤ 2400 := by rw [hX]; simp [digs]; omega
    obtain ⟨k1, hk⟩ := k_tFeed (T := tbX) rfl true emptyI false X' ⟨by simp [emptyI], by simp [emptyI], by simp only []; omega⟩
    rw [feedR_ok right_empty, hX, hf] at hk
    have hk' : tabK tbX f_token_Feed [AV.agg [AV.lst 1 true [], sv (bs []), iv 0, iv 0], AV.lst 1 false (uvs X')] = some (.tup [AV.agg [AV.lst 1 k1 [], sv (bs []), iv 0, iv 0], AV.lst 2 false [outAV (2, []), outAV (1, [s ++ [32], b, [32, 120]])]]) := by rw [hX]; exact hk
    have hsm : tabK tbX f_ref23_Same [AV.agg [AV.lst 1 k1 [], sv (bs []), iv 0, iv 0], AV.agg [AV.lst 1 true [], sv (bs []), iv 0, iv 0]] = some (bv true) := by
      have := k_rSame (T := tbX) rfl k1 emptyI true emptyI (by simp [emptyI])
      rw [sameI_self] at this
      exact this
    rw [← hX]
    have hdl : (digs b.length).length = 4 := rfl
    rw [br_pos (maxStr_ok (by omega)), br_pos (maxStr_ok (by simp; omega)), br_pos (maxStr_ok (by simp; omega)), br_pos (lenOks_of (by first | omega | (simp; done) | (simp; omega)) (by first | omega | (simp; done) | (simp; omega))), br_pos (lenOks_of (by first | omega | (simp; done) | (simp; omega)) (by first | omega | (simp; done) | (simp; omega))), hk']
    simp only [optK_s, asTup2, List.getD_cons_zero, List.getD_cons_succ, asAgg4, asLst_v, asStr_v, asInt_v, outAV, asAgg2]
    have hm1 : (s.length + 1).ble maxStr = true := maxStr_ok (by omega)
    have hq1 : strEq (bs (s ++ [32])) (bs (s ++ [32])) = true := by rw [strEq_bs]; simp
    have hq2 : strEq (bs b) ({ data := b.toArray } : ByteArray) = true := by
      show strEq (bs b) (bs b) = true
      rw [strEq_bs]; simp
    have hq3 : strEq (bs [32, 120]) (bs [32, 120]) = true := by rw [strEq_bs]; rfl
    simp only [List.isEmpty_nil, List.isEmpty_cons, svL, List.map_cons, List.map_nil, List.length_cons, List.length_nil, List.getElem?_cons_zero, List.getElem?_cons_succ, optK_s, asAgg2, asInt_v, asLst_v, asStr_v, List.getD_cons_zero, List.getD_cons_succ, rowsBytes_uvs, List.length_singleton, hm1, hq1, hq2, hq3, br_t, hsm, asBool_v]
    simp [hm1, br_t, hsm, hq1, hq2, hq3, optK_s, asBool_v]


def ann (n : Nat) : List UInt8 := [32, 123] ++ digs n ++ [125, 13, 10]
theorem ann_len (n : Nat) : (ann n).length = 9 := rfl
theorem ann_rows {n : Nat} (h : n ≤ 2000) : [uv 32, uv 123, uv ((((UInt8.ofNat (w8 (w64 (48 + w64 ((((n : Nat) : Int)).tdiv 1000)))).toNat).toNat : Nat) : Int)), uv ((((UInt8.ofNat (w8 (w64 (48 + (w64 ((((n : Nat) : Int)).tdiv 100)).tmod 10))).toNat).toNat : Nat) : Int)), uv ((((UInt8.ofNat (w8 (w64 (48 + (w64 ((((n : Nat) : Int)).tdiv 10)).tmod 10))).toNat).toNat : Nat) : Int)), uv ((((UInt8.ofNat (w8 (w64 (48 + (((n : Nat) : Int)).tmod 10))).toNat).toNat : Nat) : Int)), uv 125, uv 13, uv 10] = uvs (ann n) := by
  have t1 : ((n : Nat) : Int).tdiv 10 = ((n / 10 : Nat) : Int) := (Int.ofNat_tdiv n 10).symm
  have t2 : ((n : Nat) : Int).tdiv 100 = ((n / 100 : Nat) : Int) := (Int.ofNat_tdiv n 100).symm
  have t3 : ((n : Nat) : Int).tdiv 1000 = ((n / 1000 : Nat) : Int) := (Int.ofNat_tdiv n 1000).symm
  have m0 : ∀ k : Nat, ((k : Nat) : Int).tmod 10 = ((k % 10 : Nat) : Int) := fun k => (Int.ofNat_tmod k 10).symm
  rw [t1, t2, t3, w64_id (n := ((n / 10 : Nat) : Int)) (by omega) (by omega), w64_id (n := ((n / 100 : Nat) : Int)) (by omega) (by omega), w64_id (n := ((n / 1000 : Nat) : Int)) (by omega) (by omega), m0, m0, m0, dg (by omega), dg (by omega), dg (by omega), dg (by omega)]
  rfl
theorem lineB_some (w l : List UInt8) : lineB w (some l) = w ++ ann l.length ++ l ++ [13, 10] := by simp [lineB, ann]
abbrev WL := List UInt8 × Option (List UInt8)
def zipL : List (List UInt8) → List (Bool × List UInt8) → List WL
  | [], _ => []
  | w :: ws, [] => (w, none) :: zipL ws []
  | w :: ws, l :: ls => (w, some l.2) :: zipL ws ls
theorem zip_nil (ls : List (Bool × List UInt8)) : zipL [] ls = [] := by cases ls <;> rfl
theorem zip_some (ws : List (List UInt8)) (ls : List (Bool × List UInt8)) {i : Nat} (h : i < ws.length) (hl : i < ls.length) : zipL (ws.drop i) (ls.drop i) = (ws[i], some ls[i].2) :: zipL (ws.drop (i + 1)) (ls.drop (i + 1)) := by
  rw [List.drop_eq_getElem_cons h, List.drop_eq_getElem_cons hl]
  rfl
theorem zip_none (ws : List (List UInt8)) (ls : List (Bool × List UInt8)) {i : Nat} (h : i < ws.length) (hl : ¬ i < ls.length) : zipL (ws.drop i) (ls.drop i) = (ws[i], none) :: zipL (ws.drop (i + 1)) (ls.drop (i + 1)) := by
  rw [List.drop_eq_getElem_cons h, show ls.drop i = [] from List.drop_eq_nil_of_le (by omega), show ls.drop (i + 1) = [] from List.drop_eq_nil_of_le (by omega)]
  rfl
def okW (z : WL) : Prop := plainW z.1 ∧ ∀ x, z.2 = some x → x.length ≤ 2000
def bytesL (zs : List WL) : List UInt8 := zs.flatMap fun z => lineB z.1 z.2
def outsL (zs : List WL) : List TOut := zs.flatMap fun z => lineO z.1 z.2
theorem feed_lines : ∀ zs : List WL, (∀ z ∈ zs, okW z) → feedS emptyI (bytesL zs) = (emptyI, outsL zs)
  | [], _ => rfl
  | z :: zs, h => by
    have hz := h z List.mem_cons_self
    have ih := feed_lines zs fun x hx => h x (List.mem_cons_of_mem _ hx)
    unfold bytesL outsL at ih ⊢
    rw [List.flatMap_cons, List.flatMap_cons, feedS_app, feed_lineB hz.1 z.2 hz.2, ih]
theorem lineB_len (z : WL) (h : okW z) : (lineB z.1 z.2).length ≤ 2400 := by
  obtain ⟨w, l⟩ := z
  have hw := h.1.2
  cases l with
  | none => simp [lineB] at hw ⊢; omega
  | some l =>
    have hl := h.2 l rfl
    rw [lineB_some]
    simp [ann_len] at hw ⊢
    omega
theorem bytesL_len : ∀ zs : List WL, (∀ z ∈ zs, okW z) → (bytesL zs).length ≤ zs.length * 2400
  | [], _ => by simp [bytesL]
  | z :: zs, h => by
    have hz := lineB_len z (h z List.mem_cons_self)
    have ih := bytesL_len zs fun x hx => h x (List.mem_cons_of_mem _ hx)
    unfold bytesL at ih ⊢
    rw [List.flatMap_cons, List.length_append, List.length_cons]
    omega
theorem outsL_len : ∀ zs : List WL, (outsL zs).length ≤ zs.length * 2
  | [] => by simp [outsL]
  | z :: zs => by
    have ih := outsL_len zs
    unfold outsL at ih ⊢
    rw [List.flatMap_cons, List.length_append, List.length_cons]
    have : (lineO z.1 z.2).length ≤ 2 := by cases z.2 <;> simp [lineO]
    omega
theorem zipL_len : ∀ (ws : List (List UInt8)) (ls : List (Bool × List UInt8)), (zipL ws ls).length = ws.length
  | [], ls => by rw [zip_nil]; rfl
  | w :: ws, [] => by simp [zipL, zipL_len ws []]
  | w :: ws, l :: ls => by simp [zipL, zipL_len ws ls]

abbrev litQ (x : Bool × List UInt8) : AV := .lst 1 x.1 (uvs x.2)
abbrev encLs (wn : Bool) (ws : List (List UInt8)) (ln : Bool) (ls : List (Bool × List UInt8)) (a : Option (List UInt8) × Nat) : Slaw23_TokenLines_0 := match a.1 with
  | none => .s0 wn (svL ws) ln (ls.map litQ) (a.2 : Int)
  | some b => .s1 wn (svL ws) ln (ls.map litQ) (a.2 : Int) (uvs b)
def earlyL (o : Olaw23_TokenLines_0) : Prop := ∀ (c2 : Bool → List AV → Bool → List AV → Option AV) (c5 : Bool → List AV → Bool → List AV → List AV → Option AV), o.k (fun _ _ _ _ t => some (bv t)) (fun _ _ _ _ t _ => some (bv t)) c2 (fun _ _ _ _ t _ => some (bv t)) (fun _ _ _ _ t _ => some (bv t)) c5 = some (bv true)
def doneL (wn : Bool) (ws : List (List UInt8)) (ln : Bool) (ls : List (Bool × List UInt8)) (b : Option (List UInt8)) : Olaw23_TokenLines_0 := match b with
  | none => .x2 wn (svL ws) ln (ls.map litQ)
  | some b => .x5 wn (svL ws) ln (ls.map litQ) (uvs b)
def finL : Option (List UInt8) → List WL → Option (List UInt8)
  | none, [] => none
  | none, z :: zs => some (bytesL (z :: zs))
  | some b, zs => some (b ++ bytesL zs)
theorem finL_cons (ob : Option (List UInt8)) (z : WL) (zs : List WL) : finL ob (z :: zs) = finL (some (ob.getD [] ++ lineB z.1 z.2)) zs := by
  cases ob <;> simp [finL, bytesL]
abbrev QLn (wn : Bool) (ws : List (List UInt8)) (ln : Bool) (ls : List (Bool × List UInt8)) (a : Option (List UInt8) × Nat) (o : Olaw23_TokenLines_0) : Prop :=
  earlyL o ∨ ((∀ z ∈ zipL (ws.drop a.2) (ls.drop a.2), okW z) ∧ o = doneL wn ws ln ls (finL a.1 (zipL (ws.drop a.2) (ls.drop a.2))))
abbrev PLn (ws : List (List UInt8)) (a : Option (List UInt8) × Nat) : Prop := a.2 ≤ ws.length ∧ ws.length ≤ 20 ∧ (a.1.getD []).length ≤ a.2 * 2400
theorem encLs_inj {wn ws ln ls a b} (h : encLs wn ws ln ls a = encLs wn ws ln ls b) : a = b := by
  obtain ⟨oa, i⟩ := a
  obtain ⟨ob, j⟩ := b
  cases oa <;> cases ob <;> simp [encLs, uvs_inj_iff] at h
  · rw [show i = j by omega]
  · obtain ⟨h, rfl⟩ := h
    rw [show i = j by omega]
theorem Q_step {wn ws ln ls} {ob : Option (List UInt8)} {i : Nat} {z : WL} {o} (hz : zipL (ws.drop i) (ls.drop i) = z :: zipL (ws.drop (i + 1)) (ls.drop (i + 1))) (hok : okW z)
    (h : QLn wn ws ln ls (some (ob.getD [] ++ lineB z.1 z.2), i + 1) o) : QLn wn ws ln ls (ob, i) o := by
  rcases h with h | ⟨h1, h2⟩
  · exact .inl h
  · refine .inr ⟨?_, ?_⟩
    · simp only [hz, List.mem_cons]
      rintro x (rfl | hx)
      · exact hok
      · exact h1 x hx
    · simp only [hz]
      rw [finL_cons]
      exact h2
theorem br_true' {β : Type} {x y : Option β} : br true x y = x := rfl
theorem br_false' {β : Type} {x y : Option β} : br false x y = y := rfl
set_option maxHeartbeats 1000000 in
theorem l_Ln {T : Tab} (hT : tabK T f_law23_plain = E_plain) (wn : Bool) (ws : List (List UInt8)) (ln : Bool) (ls : List (Bool × List UInt8)) {a : Option (List UInt8) × Nat} (h : PLn ws a) :
    ∃ o, QLn wn ws ln ls a o ∧ loopQ (Rlaw23_TokenLines_0 (tabK T) some) (encLs wn ws ln ls) (PLn ws) (QLn wn ws ln ls) (encLs wn ws ln ls a) = some o := by
  refine loopQ_eq (fun a => ws.length - a.2) ?_ (fun a b h o hq => by rw [encLs_inj h]; exact hq) h
  rintro ⟨ob, i⟩ rec ⟨h1, h2, h3⟩ hrec
  simp only [] at h1 h2 h3
  have hrows : ∀ x : List UInt8, bytesRows (bs x) = uvs x := bytesRows_bs
  by_cases hi : i < ws.length
  · have hc1 : decide ((i : Int) < (((svL ws).length : Nat) : Int)) = true := by rw [svL_len]; exact decide_eq_true (by omega)
    have hc2 : decide (0 ≤ (i : Int)) = true := decide_eq_true (by omega)
    have hg : (svL ws)[((i : Nat) : Int).toNat]? = some (sv (bs ws[i])) := by rw [Int.toNat_natCast]; exact svL_get ws i hi
    have hpl := k_plain hT ws[i]
    have h10 : ([uv 13, uv 10] : List AV) = uvs [13, 10] := rfl
    cases hp : plainB ws[i] with
    | false =>
      cases ob with
      | none => exact ⟨_, .inl (fun _ _ => rfl), by simp only [encLs, Rlaw23_TokenLines_0, hc1, hc2, br_true', hg, optK_s, asStr_v, hpl, hp, asBool_v, Bool.not_false]; rfl⟩
      | some b => exact ⟨_, .inl (fun _ _ => rfl), by simp only [encLs, Rlaw23_TokenLines_0, hc1, hc2, br_true', hg, optK_s, asStr_v, hpl, hp, asBool_v, Bool.not_false]; rfl⟩
    | true =>
      have hw : plainW ws[i] := plainB_iff.1 hp
      have hwl := hw.2
      by_cases hl : i < ls.length
      · have hd1 : decide ((i : Int) < (((ls.map litQ).length : Nat) : Int)) = true := by rw [List.length_map]; exact decide_eq_true (by omega)
        have hlg : (ls.map litQ)[((i : Nat) : Int).toNat]? = some (.lst 1 ls[i].1 (uvs ls[i].2)) := by rw [Int.toNat_natCast, List.getElem?_map, List.getElem?_eq_getElem hl]; rfl
        have hz := zip_some ws ls hi hl
        by_cases hbig : ls[i].2.length > 2000
        · have hbd : decide ((((uvs ls[i].2).length : Nat) : Int) > 2000) = true := by rw [uvs_len]; exact decide_eq_true (by omega)
          cases ob with
          | none =>
            cases he : (uvs ws[i]).isEmpty with
            | true => exact ⟨_, .inl (fun _ _ => rfl), by simp only [encLs, Rlaw23_TokenLines_0, hc1, hc2, br_true', hg, optK_s, asStr_v, hpl, hp, asBool_v, Bool.not_true, br_false', hrows, he, hd1, hlg, asLst_v, hbd]; rfl⟩
            | false =>
              have hs1 : (lenOk (uvs ws[i]).length 1 && lenOk (uvs ws[i]).length 1) = true := lenOks_of (by omega) (by rw [uvs_len]; omega)
              exact ⟨_, .inl (fun _ _ => rfl), by simp only [encLs, Rlaw23_TokenLines_0, hc1, hc2, br_true', hg, optK_s, asStr_v, hpl, hp, asBool_v, Bool.not_true, br_false', hrows, he, hd1, hlg, asLst_v, hbd, hs1]; rfl⟩
          | some b =>
            simp only [Option.getD_some] at h3
            have hs1 : (lenOk ((uvs b).length + (uvs ws[i]).length) 1 && lenOk ((uvs b).length + (uvs ws[i]).length) 1) = true := lenOks_of (by omega) (by rw [uvs_len, uvs_len]; omega)
            exact ⟨_, .inl (fun _ _ => rfl), by simp only [encLs, Rlaw23_TokenLines_0, hc1, hc2, br_true', hg, optK_s, asStr_v, hpl, hp, asBool_v, Bool.not_true, br_false', hrows, hd1, hlg, asLst_v, hbd, hs1]; rfl⟩
        · have hbd : decide ((((uvs ls[i].2).length : Nat) : Int) > 2000) = false := by rw [uvs_len]; exact decide_eq_false (by omega)
          have hok : okW (ws[i], some ls[i].2) := ⟨hw, fun x hx => by cases hx; omega⟩
          have har := ann_rows (n := ls[i].2.length) (by omega)
          have hbl := lineB_len _ hok
          simp only [] at hbl
          obtain ⟨o, hq, ho⟩ := hrec (some (ob.getD [] ++ lineB ws[i] (some ls[i].2)), i + 1) ⟨hi, h2, by simp only [Option.getD_some, List.length_append]; omega⟩ (by simp only []; omega)
          refine ⟨o, Q_step hz hok hq, ?_⟩
          simp only [encLs] at ho
          rw [lineB_some] at ho
          cases ob with
          | none =>
            simp only [Option.getD_none, List.nil_append] at ho
            cases he : (uvs ws[i]).isEmpty with
            | true =>
              have hnil : ws[i] = [] := by cases hwi : ws[i] with
                | nil => rfl
                | cons x y => rw [hwi] at he; cases he
              simp only [encLs, Rlaw23_TokenLines_0, hc1, hc2, br_true', hg, optK_s, asStr_v, hpl, hp, asBool_v, Bool.not_true, br_false', hrows, he, hd1, hlg, asLst_v, hbd]
              simp only [uvs_len, har]
              simp only [h10, uvs_app, uvs_len]
              rw [br_pos (lenOks_of (by omega) (by rw [ann_len]; omega)), br_pos (lenOks_of (by omega) (by rw [List.length_append, ann_len]; omega)), w64_id (n := (i : Int) + 1) (by omega) (by omega)]
              rw [hnil, List.nil_append] at ho
              exact ho
            | false =>
              have hs1 : (lenOk (uvs ws[i]).length 1 && lenOk (uvs ws[i]).length 1) = true := lenOks_of (by omega) (by rw [uvs_len]; omega)
              simp only [encLs, Rlaw23_TokenLines_0, hc1, hc2, br_true', hg, optK_s, asStr_v, hpl, hp, asBool_v, Bool.not_true, br_false', hrows, he, hd1, hlg, asLst_v, hbd, hs1]
              simp only [uvs_len, har]
              simp only [h10, uvs_app, uvs_len]
              rw [br_pos (lenOks_of (by omega) (by first | omega | (simp [ann_len]; omega))), br_pos (lenOks_of (by omega) (by simp [ann_len]; omega)), br_pos (lenOks_of (by omega) (by simp [ann_len]; omega)), w64_id (n := (i : Int) + 1) (by omega) (by omega)]
              exact ho
          | some b =>
            simp only [Option.getD_some] at h3 ho
            have hs1 : (lenOk ((uvs b).length + (uvs ws[i]).length) 1 && lenOk ((uvs b).length + (uvs ws[i]).length) 1) = true := lenOks_of (by omega) (by rw [uvs_len, uvs_len]; omega)
            simp only [encLs, Rlaw23_TokenLines_0, hc1, hc2, br_true', hg, optK_s, asStr_v, hpl, hp, asBool_v, Bool.not_true, br_false', hrows, hd1, hlg, asLst_v, hbd, hs1]
            simp only [uvs_len, har]
            simp only [h10, uvs_app, uvs_len]
            rw [br_pos (lenOks_of (by omega) (by simp [ann_len]; omega)), br_pos (lenOks_of (by omega) (by simp [ann_len]; omega)), br_pos (lenOks_of (by omega) (by simp [ann_len]; omega)), w64_id (n := (i : Int) + 1) (by omega) (by omega)]
            simp only [List.append_assoc] at ho ⊢
            exact ho
      · have hd1 : decide ((i : Int) < (((ls.map litQ).length : Nat) : Int)) = false := by rw [List.length_map]; exact decide_eq_false (by omega)
        have hz := zip_none ws ls hi hl
        have hok : okW (ws[i], none) := ⟨hw, fun x hx => by cases hx⟩
        have hbl := lineB_len _ hok
        simp only [] at hbl
        obtain ⟨o, hq, ho⟩ := hrec (some (ob.getD [] ++ lineB ws[i] none), i + 1) ⟨hi, h2, by simp only [Option.getD_some, List.length_append]; omega⟩ (by simp only []; omega)
        refine ⟨o, Q_step hz hok hq, ?_⟩
        simp only [encLs, lineB] at ho
        cases ob with
        | none =>
          simp only [Option.getD_none, List.nil_append] at ho
          cases he : (uvs ws[i]).isEmpty with
          | true =>
            have hnil : ws[i] = [] := by cases hwi : ws[i] with
              | nil => rfl
              | cons x y => rw [hwi] at he; cases he
            simp only [encLs, Rlaw23_TokenLines_0, hc1, hc2, br_true', hg, optK_s, asStr_v, hpl, hp, asBool_v, Bool.not_true, br_false', hrows, he, hd1]
            rw [h10, w64_id (n := (i : Int) + 1) (by omega) (by omega)]
            rw [hnil, List.nil_append] at ho
            exact ho
          | false =>
            have hs1 : (lenOk (uvs ws[i]).length 1 && lenOk (uvs ws[i]).length 1) = true := lenOks_of (by omega) (by rw [uvs_len]; omega)
            simp only [encLs, Rlaw23_TokenLines_0, hc1, hc2, br_true', hg, optK_s, asStr_v, hpl, hp, asBool_v, Bool.not_true, br_false', hrows, he, hd1, hs1]
            simp only [uvs_len, h10, uvs_app]
            rw [br_pos (lenOks_of (by omega) (by omega)), w64_id (n := (i : Int) + 1) (by omega) (by omega)]
            exact ho
        | some b =>
          simp only [Option.getD_some] at h3 ho
          have hs1 : (lenOk ((uvs b).length + (uvs ws[i]).length) 1 && lenOk ((uvs b).length + (uvs ws[i]).length) 1) = true := lenOks_of (by omega) (by rw [uvs_len, uvs_len]; omega)
          simp only [encLs, Rlaw23_TokenLines_0, hc1, hc2, br_true', hg, optK_s, asStr_v, hpl, hp, asBool_v, Bool.not_true, br_false', hrows, hd1, hs1]
          simp only [uvs_len, h10, uvs_app]
          rw [br_pos (lenOks_of (by omega) (by simp; omega)), w64_id (n := (i : Int) + 1) (by omega) (by omega)]
          simp only [List.append_assoc] at ho ⊢
          exact ho
  · have hc1 : decide ((i : Int) < (((svL ws).length : Nat) : Int)) = false := by rw [svL_len]; exact decide_eq_false (by omega)
    have hz : zipL (ws.drop i) (ls.drop i) = [] := by rw [List.drop_eq_nil_of_le (by omega), zip_nil]
    refine ⟨doneL wn ws ln ls (finL ob []), .inr ⟨(by simp only [hz]; intro z hz; cases hz), (by simp only [hz])⟩, ?_⟩
    cases ob with
    | none => simp only [encLs, Rlaw23_TokenLines_0, hc1, br_false']; rfl
    | some b => simp only [encLs, Rlaw23_TokenLines_0, hc1, br_false']; simp [doneL, finL, bytesL]
theorem drop_cons {α : Type} {l : List α} {k : Nat} {x : α} {r : List α} (h : l.drop k = x :: r) : k < l.length ∧ l[k]? = some x ∧ l.drop (k + 1) = r := by
  have hk : k < l.length := by
    rcases Nat.lt_or_ge k l.length with h' | h'
    · exact h'
    · rw [List.drop_eq_nil_of_le h'] at h; cases h
  rw [List.drop_eq_getElem_cons hk] at h
  obtain ⟨h1, h2⟩ := List.cons.inj h
  exact ⟨hk, by rw [List.getElem?_eq_getElem hk, h1], h2⟩
abbrev encLk (wn : Bool) (ws : List (List UInt8)) (ln : Bool) (ls : List (Bool × List UInt8)) (O : List TOut) (B : List AV) (n : Bool) (a : Nat × Nat) : Slaw23_TokenLines_1b :=
  .s0 wn (svL ws) ln (ls.map litQ) O.isEmpty (O.map outAV) (a.1 : Int) (a.2 : Int) B n [] (bs []) 0 0
abbrev PLk (ws : List (List UInt8)) (ls : List (Bool × List UInt8)) (O : List TOut) (a : Nat × Nat) : Prop :=
  a.2 ≤ ws.length ∧ ws.length ≤ 20 ∧ a.1 ≤ O.length ∧ O.length ≤ 40 ∧ O.drop a.1 = outsL (zipL (ws.drop a.2) (ls.drop a.2)) ∧ ∀ z ∈ zipL (ws.drop a.2) (ls.drop a.2), okW z
def outLk (O : List TOut) (B : List AV) (n : Bool) (_ : Nat × Nat) : Olaw23_TokenLines_1b := .x1 O.isEmpty (O.map outAV) (O.length : Int) B n [] (bs []) 0 0
set_option maxHeartbeats 1000000 in
theorem l_Lk (K : PureK) (wn : Bool) (ws : List (List UInt8)) (ln : Bool) (ls : List (Bool × List UInt8)) (O : List TOut) (B : List AV) (n : Bool) {a : Nat × Nat} (h : PLk ws ls O a) :
    loopF (Rlaw23_TokenLines_1b K some) (encLk wn ws ln ls O B n) (PLk ws ls O) (outLk O B n) (encLk wn ws ln ls O B n a) = some (outLk O B n a) := by
  refine loopF_eq (fun a => ws.length - a.2) ?_ (fun a b h => rfl) h
  rintro ⟨k, i⟩ rec ⟨h1, h2, h3, h4, h5, h6⟩ hrec
  simp only [] at h1 h2 h3 h4 h5 h6
  by_cases hi : i < ws.length
  · have hc1 : decide ((i : Int) < (((svL ws).length : Nat) : Int)) = true := by rw [svL_len]; exact decide_eq_true (by omega)
    have hc2 : decide (0 ≤ (i : Int)) = true := decide_eq_true (by omega)
    have hg : (svL ws)[((i : Nat) : Int).toNat]? = some (sv (bs ws[i])) := by rw [Int.toNat_natCast]; exact svL_get ws i hi
    have hk0 : decide (0 ≤ (k : Int)) = true := decide_eq_true (by omega)
    have hk1 : decide (0 ≤ ((k + 1 : Nat) : Int)) = true := decide_eq_true (by omega)
    by_cases hl : i < ls.length
    · have hd1 : decide ((i : Int) < (((ls.map litQ).length : Nat) : Int)) = true := by rw [List.length_map]; exact decide_eq_true (by omega)
      have hd2 : decide ((i : Int) ≥ (((ls.map litQ).length : Nat) : Int)) = false := by rw [List.length_map]; exact decide_eq_false (by omega)
      have hlg : (ls.map litQ)[((i : Nat) : Int).toNat]? = some (.lst 1 ls[i].1 (uvs ls[i].2)) := by rw [Int.toNat_natCast, List.getElem?_map, List.getElem?_eq_getElem hl]; rfl
      have hz := zip_some ws ls hi hl
      rw [hz] at h5 h6
      have hok := h6 _ List.mem_cons_self
      have hwl := hok.1.2
      simp only [] at hwl
      rw [show outsL ((ws[i], some ls[i].2) :: zipL (ws.drop (i + 1)) (ls.drop (i + 1))) = (2, []) :: (1, [ws[i] ++ [32], ls[i].2, []]) :: outsL (zipL (ws.drop (i + 1)) (ls.drop (i + 1))) from rfl] at h5
      obtain ⟨e1, e2, e3⟩ := drop_cons h5
      obtain ⟨e4, e5, e6⟩ := drop_cons e3
      have q1 : decide ((k : Int) ≥ (((O.map outAV).length : Nat) : Int)) = false := by rw [List.length_map]; exact decide_eq_false (by omega)
      have q2 : decide ((k : Int) < (((O.map outAV).length : Nat) : Int)) = true := by rw [List.length_map]; exact decide_eq_true (by omega)
      have q3 : decide (((k + 1 : Nat) : Int) ≥ (((O.map outAV).length : Nat) : Int)) = false := by rw [List.length_map]; exact decide_eq_false (by omega)
      have q4 : decide (((k + 1 : Nat) : Int) < (((O.map outAV).length : Nat) : Int)) = true := by rw [List.length_map]; exact decide_eq_true (by omega)
      have g1 : (O.map outAV)[((k : Nat) : Int).toNat]? = some (outAV (2, [])) := by rw [Int.toNat_natCast, List.getElem?_map, e2]; rfl
      have g2 : (O.map outAV)[((k + 1 : Nat) : Int).toNat]? = some (outAV (1, [ws[i] ++ [32], ls[i].2, []])) := by rw [Int.toNat_natCast, List.getElem?_map, e5]; rfl
      have w1 : w64 ((k : Int) + 1) = ((k + 1 : Nat) : Int) := by rw [w64_id (by omega) (by omega)]; omega
      have w2 : w64 (((k + 1 : Nat) : Int) + 1) = ((k + 1 + 1 : Nat) : Int) := by rw [w64_id (by omega) (by omega)]; omega
      have w3 : w64 ((i : Int) + 1) = ((i + 1 : Nat) : Int) := by rw [w64_id (by omega) (by omega)]; omega
      have hm : ((bs ws[i]).size + 1).ble maxStr = true := maxStr_ok (by rw [bs_size]; omega)
      have s1 : strEq (bs (ws[i] ++ [32])) (catStr (bs ws[i]) ({ data := #[32] } : ByteArray)) = true := by
        rw [show ({ data := #[32] } : ByteArray) = bs [32] from rfl, cat_bs, strEq_bs]; simp
      have s2 : strEq (bs ls[i].2) ({ data := ls[i].2.toArray } : ByteArray) = true := by
        show strEq (bs ls[i].2) (bs ls[i].2) = true
        rw [strEq_bs]; simp
      have s3 : strEq (bs []) ({ data := #[] } : ByteArray) = true := rfl
      have hr := hrec (k + 1 + 1, i + 1) ⟨hi, h2, by omega, h4, e6, fun z hz => h6 z (List.mem_cons_of_mem _ hz)⟩ (by simp only []; omega)
      obtain ⟨R, hR⟩ : ∃ R, R = svL [ws[i] ++ [32], ls[i].2, []] := ⟨_, rfl⟩
      have z0 : (((R.length : Nat) : Int) != 3) = false := by rw [hR]; rfl
      have z1 : decide (0 < ((R.length : Nat) : Int)) = true := by rw [hR]; rfl
      have z2 : decide (1 < ((R.length : Nat) : Int)) = true := by rw [hR]; rfl
      have z3 : decide (2 < ((R.length : Nat) : Int)) = true := by rw [hR]; rfl
      have y0 : R[0]? = some (sv (bs (ws[i] ++ [32]))) := by rw [hR]; rfl
      have y1 : R[1]? = some (sv (bs ls[i].2)) := by rw [hR]; rfl
      have y2 : R[2]? = some (sv (bs [])) := by rw [hR]; rfl
      have hn1 : ((2 : Int) != 2) = false := rfl
      have hn2 : ((1 : Int) != 1) = false := rfl
      simp only [encLk, Rlaw23_TokenLines_1b, hc1, hd1, br_true', q1, br_false', hk0, q2, g1, optK_s, outAV, asAgg2, asInt_v, asLst_v, asBool_v, List.getD_cons_zero, List.getD_cons_succ, w1, q3, hk1, q4, g2, ← hR, hn1, hn2, z0, z1, z2, z3, y0, y1, y2, asStr_v, hc2, hg, hm, s1, s2, s3, hlg, hd2, rowsBytes_uvs, w2, w3, Bool.not_true]
      exact hr
    · have hd1 : decide ((i : Int) < (((ls.map litQ).length : Nat) : Int)) = false := by rw [List.length_map]; exact decide_eq_false (by omega)
      have hd2 : decide ((i : Int) ≥ (((ls.map litQ).length : Nat) : Int)) = true := by rw [List.length_map]; exact decide_eq_true (by omega)
      have hz := zip_none ws ls hi hl
      rw [hz] at h5 h6
      rw [show outsL ((ws[i], none) :: zipL (ws.drop (i + 1)) (ls.drop (i + 1))) = (1, [ws[i]]) :: outsL (zipL (ws.drop (i + 1)) (ls.drop (i + 1))) from rfl] at h5
      obtain ⟨e1, e2, e3⟩ := drop_cons h5
      have q1 : decide ((k : Int) ≥ (((O.map outAV).length : Nat) : Int)) = false := by rw [List.length_map]; exact decide_eq_false (by omega)
      have q2 : decide ((k : Int) < (((O.map outAV).length : Nat) : Int)) = true := by rw [List.length_map]; exact decide_eq_true (by omega)
      have g1 : (O.map outAV)[((k : Nat) : Int).toNat]? = some (outAV (1, [ws[i]])) := by rw [Int.toNat_natCast, List.getElem?_map, e2]; rfl
      have w1 : w64 ((k : Int) + 1) = ((k + 1 : Nat) : Int) := by rw [w64_id (by omega) (by omega)]; omega
      have w3 : w64 ((i : Int) + 1) = ((i + 1 : Nat) : Int) := by rw [w64_id (by omega) (by omega)]; omega
      have s1 : strEq (bs ws[i]) (bs ws[i]) = true := by rw [strEq_bs]; simp
      have hr := hrec (k + 1, i + 1) ⟨hi, h2, by omega, h4, e3, fun z hz => h6 z (List.mem_cons_of_mem _ hz)⟩ (by simp only []; omega)
      obtain ⟨R, hR⟩ : ∃ R, R = svL [ws[i]] := ⟨_, rfl⟩
      have z0 : (((R.length : Nat) : Int) != 1) = false := by rw [hR]; rfl
      have z1 : decide (0 < ((R.length : Nat) : Int)) = true := by rw [hR]; rfl
      have y0 : R[0]? = some (sv (bs ws[i])) := by rw [hR]; rfl
      have hn2 : ((1 : Int) != 1) = false := rfl
      simp only [encLk, Rlaw23_TokenLines_1b, hc1, hd1, br_true', q1, br_false', hk0, q2, g1, optK_s, outAV, asAgg2, asInt_v, asLst_v, asBool_v, List.getD_cons_zero, List.getD_cons_succ, ← hR, hn2, z0, z1, y0, asStr_v, hc2, hg, s1, hd2, w1, w3, Bool.not_true]
      exact hr
  · have hc1 : decide ((i : Int) < (((svL ws).length : Nat) : Int)) = false := by rw [svL_len]; exact decide_eq_false (by omega)
    rw [show ws.drop i = [] from List.drop_eq_nil_of_le (by omega), zip_nil] at h5
    have hk : k = O.length := by
      have : (O.drop k).length = 0 := by rw [h5]; rfl
      rw [List.length_drop] at this
      omega
    subst hk
    simp only [encLk, Rlaw23_TokenLines_1b, hc1, br_false']
    rfl

abbrev encL0 (wn : Bool) (ln : Bool) (ls : List (Bool × List UInt8)) (n : Bool) (_ : Unit) : Slaw23_TokenLines_1 := .s0 wn [] ln (ls.map litQ) true [] 0 0 n [] (bs []) 0 0
def outL0 (n : Bool) (_ : Unit) : Olaw23_TokenLines_1 := .x1 true [] 0 n [] (bs []) 0 0
theorem l_L0 (K : PureK) (wn : Bool) (ln : Bool) (ls : List (Bool × List UInt8)) (n : Bool) :
    loopF (Rlaw23_TokenLines_1 K some) (encL0 wn ln ls n) (fun _ => True) (outL0 n) (encL0 wn ln ls n ()) = some (outL0 n ()) := by
  refine loopF_eq (fun a => 0) ?_ (fun a b h => rfl) trivial
  rintro ⟨⟩ rec _ hrec
  rfl
theorem t_Lines (wn : Bool) (ws : List (List UInt8)) (ln : Bool) (ls : List (Bool × List UInt8)) : PureCall X f_law23_TokenLines [.lst 1 wn (svL ws), .lst 1 ln (ls.map litQ)] (bv true) := by
  have hK : KOk X (tabK tbX) := tab_ok _ tbX_ok
  have hal : tabK tbX f_law23_alive [] = some (bv true) := rfl
  by_cases c : ws.length > 20
  · have hc : decide ((((svL ws).length : Nat) : Int) > 20) = true := by rw [svL_len]; exact decide_eq_true (by omega)
    exact pclaw23_TokenLines hK (llaw23_TokenLines_0 := fun _ => none) (llaw23_TokenLines_1 := fun _ => none) (llaw23_TokenLines_1b := fun _ => none) (fun _ _ h => by cases h) (fun _ _ h => by cases h) (fun _ _ h => by cases h)
      (by unfold Rlaw23_TokenLines; rw [hal]; simp only [optK_s, asBool_v, Bool.not_true, br_false', hc, br_true'])
  · have hc : decide ((((svL ws).length : Nat) : Int) > 20) = false := by rw [svL_len]; exact decide_eq_false (by omega)
    obtain ⟨o, hq, hl⟩ := l_Ln (T := tbX) rfl wn ws ln ls (a := (none, 0)) ⟨Nat.zero_le _, by omega, by simp⟩
    have hl' : loopQ (Rlaw23_TokenLines_0 (tabK tbX) some) (encLs wn ws ln ls) (PLn ws) (QLn wn ws ln ls) (Slaw23_TokenLines_0.s0 wn (svL ws) ln (ls.map litQ) 0) = some o := hl
    rcases hq with he | ⟨hok, rfl⟩
    · exact pclaw23_TokenLines hK (llaw23_TokenLines_0 := loopQ (Rlaw23_TokenLines_0 (tabK tbX) some) (encLs wn ws ln ls) (PLn ws) (QLn wn ws ln ls)) (llaw23_TokenLines_1 := fun _ => none) (llaw23_TokenLines_1b := fun _ => none) loopQ_ok (fun _ _ h => by cases h) (fun _ _ h => by cases h)
        (by unfold Rlaw23_TokenLines; rw [hal]; simp only [optK_s, asBool_v, Bool.not_true, br_false', hc]; rw [hl']; simp only [optK_s]; exact he _ _)
    · simp only [List.drop_zero] at hok hl'
      cases hws : ws with
      | nil =>
        subst hws
        obtain ⟨k1, hk⟩ := k_tFeed (T := tbX) rfl true emptyI true [] ⟨by simp [emptyI], by simp [emptyI], by simp⟩
        rw [feedR_ok right_empty] at hk
        have hk' : tabK tbX f_token_Feed [AV.agg [AV.lst 1 true [], sv ({ data := #[] } : ByteArray), iv 0, iv 0], AV.lst 1 true []] = some (.tup [AV.agg [AV.lst 1 k1 [], sv (bs []), iv 0, iv 0], AV.lst 2 true []]) := hk
        have hsm : tabK tbX f_ref23_Same [AV.agg [AV.lst 1 k1 [], sv (bs []), iv 0, iv 0], AV.agg [AV.lst 1 true [], sv ({ data := #[] } : ByteArray), iv 0, iv 0]] = some (bv true) := by
          have := k_rSame (T := tbX) rfl k1 emptyI true emptyI (by simp [emptyI])
          rw [sameI_self] at this
          exact this
        have h0 := l_L0 (tabK tbX) wn ln ls k1
        have h0' : loopF (Rlaw23_TokenLines_1 (tabK tbX) some) (encL0 wn ln ls k1) (fun _ => True) (outL0 k1) (.s0 wn [] ln (ls.map litQ) true [] 0 0 k1 [] (bs []) 0 0) = some (.x1 true [] 0 k1 [] (bs []) 0 0) := h0
        rw [zip_nil] at hl'
        exact pclaw23_TokenLines hK (llaw23_TokenLines_0 := loopQ (Rlaw23_TokenLines_0 (tabK tbX) some) (encLs wn [] ln ls) (PLn []) (QLn wn [] ln ls)) (llaw23_TokenLines_1 := loopF (Rlaw23_TokenLines_1 (tabK tbX) some) (encL0 wn ln ls k1) (fun _ => True) (outL0 k1)) (llaw23_TokenLines_1b := fun _ => none) loopQ_ok loopF_ok (fun _ _ h => by cases h)
          (by
            unfold Rlaw23_TokenLines
            rw [hal]
            simp only [optK_s, asBool_v, Bool.not_true, br_false', hc]
            rw [hl']
            simp only [optK_s, finL, doneL, Olaw23_TokenLines_0.k, hk', asTup2, List.getD_cons_zero, List.getD_cons_succ, asAgg4, asLst_v, asStr_v, asInt_v, svL, List.map_nil]
            rw [h0']
            simp only [optK_s, Olaw23_TokenLines_1.k, hsm, asBool_v]
            rfl)
      | cons w0 ws0 =>
        have hzl := zipL_len ws ls
        have hbl := bytesL_len _ hok
        have hol := outsL_len (zipL ws ls)
        obtain ⟨zs, hzs⟩ : ∃ zs, zs = zipL ws ls := ⟨_, rfl⟩
        have hne : finL none zs = some (bytesL zs) := by
          cases hz : zs with
          | nil => rw [← hzs, hz, hws] at hzl; simp at hzl
          | cons z zs => rfl
        rw [← hzs] at hok hl' hzl hbl hol
        rw [hne] at hl'
        rw [← hws]
        obtain ⟨k1, hk⟩ := k_tFeed (T := tbX) rfl true emptyI false (bytesL zs) ⟨by simp [emptyI], by simp [emptyI], by simp only []; omega⟩
        rw [feedR_ok right_empty, feed_lines zs hok] at hk
        have hk' : tabK tbX f_token_Feed [AV.agg [AV.lst 1 true [], sv ({ data := #[] } : ByteArray), iv 0, iv 0], AV.lst 1 false (uvs (bytesL zs))] = some (.tup [AV.agg [AV.lst 1 k1 [], sv (bs []), iv 0, iv 0], outsAV (outsL zs)]) := hk
        have hsm : tabK tbX f_ref23_Same [AV.agg [AV.lst 1 k1 [], sv (bs []), iv 0, iv 0], AV.agg [AV.lst 1 true [], sv ({ data := #[] } : ByteArray), iv 0, iv 0]] = some (bv true) := by
          have := k_rSame (T := tbX) rfl k1 emptyI true emptyI (by simp [emptyI])
          rw [sameI_self] at this
          exact this
        have h1 := l_Lk (tabK tbX) wn ws ln ls (outsL zs) (uvs (bytesL zs)) k1 (a := (0, 0)) ⟨Nat.zero_le _, by omega, Nat.zero_le _, by omega, by rw [List.drop_zero, List.drop_zero, List.drop_zero, hzs], by rw [List.drop_zero, List.drop_zero, ← hzs]; exact hok⟩
        have h1' : loopF (Rlaw23_TokenLines_1b (tabK tbX) some) (encLk wn ws ln ls (outsL zs) (uvs (bytesL zs)) k1) (PLk ws ls (outsL zs)) (outLk (outsL zs) (uvs (bytesL zs)) k1) (.s0 wn (svL ws) ln (ls.map litQ) (outsL zs).isEmpty ((outsL zs).map outAV) 0 0 (uvs (bytesL zs)) k1 [] (bs []) 0 0) = some (.x1 (outsL zs).isEmpty ((outsL zs).map outAV) ((outsL zs).length : Int) (uvs (bytesL zs)) k1 [] (bs []) 0 0) := h1
        exact pclaw23_TokenLines hK (llaw23_TokenLines_0 := loopQ (Rlaw23_TokenLines_0 (tabK tbX) some) (encLs wn ws ln ls) (PLn ws) (QLn wn ws ln ls)) (llaw23_TokenLines_1 := fun _ => none) (llaw23_TokenLines_1b := loopF (Rlaw23_TokenLines_1b (tabK tbX) some) (encLk wn ws ln ls (outsL zs) (uvs (bytesL zs)) k1) (PLk ws ls (outsL zs)) (outLk (outsL zs) (uvs (bytesL zs)) k1)) loopQ_ok (fun _ _ h => by cases h) loopF_ok
          (by
            unfold Rlaw23_TokenLines
            rw [hal]
            simp only [optK_s, asBool_v, Bool.not_true, br_false', hc]
            rw [hl']
            simp only [optK_s, doneL, Olaw23_TokenLines_0.k, hk', asTup2, List.getD_cons_zero, List.getD_cons_succ, asAgg4, asLst_v, asStr_v, asInt_v, outsAV]
            rw [h1']
            have hln : (((outsL zs).length : Int) == ((((outsL zs).map outAV).length : Nat) : Int)) = true := by rw [List.length_map]; simp
            simp only [optK_s, Olaw23_TokenLines_1b.k, hsm, asBool_v, hln, br_true'])
end Go.Proofs.YtphbfkncimifoaaDoor
