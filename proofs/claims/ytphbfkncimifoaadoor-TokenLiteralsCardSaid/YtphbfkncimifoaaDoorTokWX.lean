import Derived.Test.YtphbfkncimifoaaDoorTokTN
import Derived.Test.YtphbfkncimifoaaDoorTokL
import Derived.Test.YtphbfkncimifoaaDoorToldK6
set_option linter.unusedVariables false
set_option linter.unusedSimpArgs false
set_option maxRecDepth 100000
namespace Go.Proofs.YtphbfkncimifoaaDoor
/- Lines of plain words, and literals: what a reader tells of them. -/
open Go Go.Ab

def plainC (c : UInt8) : Bool := (decide (97 ≤ (c ||| 32).toNat) && decide ((c ||| 32).toNat ≤ 122)) || isDig c || c == 32
def plainW (w : List UInt8) : Prop := (∀ c ∈ w, plainC c = true) ∧ w.length ≤ 300
theorem plainC_ne {c : UInt8} (h : plainC c = true) : c ≠ 10 ∧ c ≠ 13 ∧ c ≠ 123 ∧ c ≠ 125 := by
  refine ⟨?_, ?_, ?_, ?_⟩ <;> rintro rfl <;> revert h <;> decide
def digs (n : Nat) : List UInt8 := [UInt8.ofNat (48 + n / 1000), UInt8.ofNat (48 + n / 100 % 10), UInt8.ofNat (48 + n / 10 % 10), UInt8.ofNat (48 + n % 10)]
theorem dig_nat {k : Nat} (h : k ≤ 9) : (UInt8.ofNat (48 + k)).toNat = 48 + k := by
  simp only [UInt8.toNat_ofNat']
  omega
theorem dig_is {k : Nat} (h : k ≤ 9) : isDig (UInt8.ofNat (48 + k)) = true := by
  unfold isDig
  rw [dig_nat h]
  simp
  omega
theorem digs_all {n : Nat} (h : n ≤ 9999) : (digs n).all isDig = true := by
  simp only [digs, List.all_cons, List.all_nil, Bool.and_true, Bool.and_eq_true]
  exact ⟨dig_is (by omega), dig_is (by omega), dig_is (by omega), dig_is (by omega)⟩
theorem digs_num {n : Nat} (h : n ≤ 9999) : numGo (digs n) 0 = n := by
  simp only [digs, numGo]
  rw [dig_nat (k := n / 1000) (by omega), dig_nat (k := n / 100 % 10) (by omega), dig_nat (k := n / 10 % 10) (by omega), dig_nat (k := n % 10) (by omega)]
  omega
theorem isDig_ne {c : UInt8} (h : isDig c = true) : c ≠ 10 ∧ c ≠ 13 ∧ c ≠ 123 ∧ c ≠ 125 := by
  refine ⟨?_, ?_, ?_, ?_⟩ <;> rintro rfl <;> revert h <;> decide
theorem digs_no {n : Nat} (h : n ≤ 9999) {c : UInt8} (hc : c = 10 ∨ c = 123) : c ∉ digs n := by
  intro hm
  have := List.all_eq_true.1 (digs_all h) c hm
  have := isDig_ne this
  rcases hc with rfl | rfl
  · exact this.1 rfl
  · exact this.2.2.1 rfl
/-- A line's end that announces. -/
theorem lit_head (w : List UInt8) {n : Nat} (h : n ≤ 2000) : litL (w ++ [32, 123] ++ digs n ++ [125]) = some (w ++ [32], (n : Int)) := by
  have hr : (w ++ [32, 123] ++ digs n ++ [125]).reverse = 125 :: ((digs n).reverse ++ 123 :: (32 :: w.reverse)) := by simp
  unfold litL
  rw [hr]
  simp only [beq_self_eq_true]
  rw [refGo_at _ _ 0 0 (by simpa using digs_no (n := n) (by omega) (c := 123) (.inr rfl))]
  have hl : (digs n).length = 4 := rfl
  rw [List.all_reverse, digs_all (by omega), List.length_reverse, hl, List.reverse_reverse, digs_num (by omega)]
  simp
theorem lit_plain {w : List UInt8} (h : ∀ c ∈ w, c ≠ 125) : litL w = none := by
  unfold litL
  cases hr : w.reverse with
  | nil => rfl
  | cons x r =>
    have : x ∈ w := by
      have : x ∈ w.reverse := by rw [hr]; exact List.mem_cons_self
      simpa using this
    simp only []
    rw [show (x == 125) = false by simpa using h x this]
/-- A text up to a line feed. -/
theorem feed_line (ps : List (List UInt8)) (x : List UInt8) (hl : x.length < 400) (hn : (10 : UInt8) ∉ x) : feedS ⟨ps, [], 0, 0⟩ (x ++ [10]) = lineS ps (cutSuf x 13) := by
  rw [feedS_app, feed_text ps 0 x [] (by simp; omega) hn]
  have ho : oneS ⟨ps, [] ++ x, 0, 0⟩ 10 = lineS ps (cutSuf x 13) := by
    unfold oneS
    simp only [List.nil_append]
    rw [if_pos (by trivial), if_neg (by omega), if_pos (by trivial)]
  simp only [feedS, ho]
  simp
def annS (p : List UInt8) (n : Nat) : TIn := if n = 0 then ⟨[p, []], [], 0, 0⟩ else ⟨[p], [], 1, n⟩
theorem cutSuf_at (x : List UInt8) (c : UInt8) : cutSuf (x ++ [c]) c = x := by
  unfold cutSuf
  rw [hasSuf_yes]
  simp
theorem cutSuf_ne (x : List UInt8) {c d : UInt8} (h : d ≠ c) : cutSuf (x ++ [d]) c = x ++ [d] := by
  unfold cutSuf
  rw [hasSuf_no x h]
theorem line_ann (w : List UInt8) {n : Nat} (h : n ≤ 2000) : lineS [] (w ++ [32, 123] ++ digs n ++ [125]) = (annS (w ++ [32]) n, [(2, [])]) := by
  unfold lineS annS
  rw [lit_head w h]
  simp only [List.length_nil, List.nil_append]
  rw [decide_eq_false (show ¬ ((n : Nat) : Int) > 2000 by omega)]
  by_cases h0 : n = 0
  · subst h0
    rfl
  · rw [if_neg h0, show (((n : Nat) : Int) == 0) = false by simp; omega]
    rfl
theorem head_sizes {w : List UInt8} (hw : plainW w) {n : Nat} (h : n ≤ 2000) : (w ++ [32, 123] ++ digs n ++ [125]).length ≤ 307 ∧ (10 : UInt8) ∉ w ++ [32, 123] ++ digs n ++ [125] := by
  refine ⟨by have := hw.2; simp [digs]; omega, fun hm => ?_⟩
  simp only [List.mem_append, List.mem_cons, List.not_mem_nil, or_false] at hm
  rcases hm with ((hm | hm | hm) | hm) | hm
  · exact (plainC_ne (hw.1 _ hm)).1 rfl
  · revert hm; decide
  · revert hm; decide
  · exact digs_no (by omega) (.inl rfl) hm
  · revert hm; decide
/-- What a word and a literal's size announce: with a carriage return, or without. -/
theorem feed_head {w : List UInt8} (hw : plainW w) {n : Nat} (h : n ≤ 2000) (cr : Bool) : feedS emptyI (w ++ [32, 123] ++ digs n ++ [125] ++ (if cr then [13, 10] else [10])) = (annS (w ++ [32]) n, [(2, [])]) := by
  obtain ⟨s1, s2⟩ := head_sizes hw h
  cases cr with
  | true =>
    rw [show (if (true : Bool) = true then ([13, 10] : List UInt8) else [10]) = [13] ++ [10] from rfl, ← List.append_assoc]
    rw [show emptyI = ⟨[], [], 0, 0⟩ from rfl, feed_line [] _ (by simp at s1 ⊢; omega) (by
      intro hm
      rcases List.mem_append.1 hm with hm | hm
      · exact s2 hm
      · revert hm; decide), cutSuf_at, line_ann w h]
  | false =>
    rw [show (if (false : Bool) = true then ([13, 10] : List UInt8) else [10]) = [10] from rfl]
    rw [show emptyI = ⟨[], [], 0, 0⟩ from rfl, feed_line [] _ (by omega) s2, cutSuf_ne _ (by decide), line_ann w h]
theorem feed_lits (p : List UInt8) (l : List UInt8) : feedS (annS p l.length) l = (⟨[p, l], [], 0, 0⟩, []) := by
  unfold annS
  cases l with
  | nil => rfl
  | cons c l =>
    rw [if_neg (by simp), feed_lit_end [p] (c :: l) [] _ rfl (by simp)]
    rfl
theorem feed_tail (ps : List (List UInt8)) (x : List UInt8) (hl : x.length < 400) (hn : ∀ c ∈ x, c ≠ 10 ∧ c ≠ 125) : feedS ⟨ps, [], 0, 0⟩ (x ++ [10]) = (emptyI, [(1, ps ++ [cutSuf x 13])]) := by
  rw [feed_line ps x hl (fun hm => (hn _ hm).1 rfl)]
  unfold lineS
  have hsub : ∀ c ∈ cutSuf x 13, c ≠ 125 := by
    intro c hc
    unfold cutSuf at hc
    split at hc
    · exact (hn c (List.dropLast_subset _ hc)).2
    · exact (hn c hc).2
  rw [lit_plain hsub]
/-- A line of the law TokenLines. -/
def lineB (w : List UInt8) (l : Option (List UInt8)) : List UInt8 := match l with
  | some l => w ++ [32, 123] ++ digs l.length ++ [125] ++ [13, 10] ++ l ++ [13, 10]
  | none => w ++ [13, 10]
def lineO (w : List UInt8) (l : Option (List UInt8)) : List TOut := match l with
  | some l => [(2, []), (1, [w ++ [32], l, []])]
  | none => [(1, [w])]
theorem feed_lineB {w : List UInt8} (hw : plainW w) (l : Option (List UInt8)) (hl : ∀ x, l = some x → x.length ≤ 2000) : feedS emptyI (lineB w l) = (emptyI, lineO w l) := by
  cases l with
  | none =>
    have h := feed_tail [] (w ++ [13]) (by have := hw.2; simp; omega) (fun c hc => by
      rcases List.mem_append.1 hc with hc | hc
      · have := plainC_ne (hw.1 c hc); exact ⟨this.1, this.2.2.2⟩
      · simp at hc; subst hc; decide)
    rw [cutSuf_at] at h
    simp only [lineB, lineO]
    rw [show w ++ [13, 10] = (w ++ [13]) ++ [10] by simp]
    exact h
  | some l =>
    have hn := hl l rfl
    have h1 := feed_head hw hn true
    rw [show (if (true : Bool) = true then ([13, 10] : List UInt8) else [10]) = [13, 10] from rfl] at h1
    have h3 := feed_tail [w ++ [32], l] [13] (by simp) (fun c hc => by simp at hc; subst hc; decide)
    simp only [lineB, lineO]
    rw [show w ++ [32, 123] ++ digs l.length ++ [125] ++ [13, 10] ++ l ++ [13, 10] = (w ++ [32, 123] ++ digs l.length ++ [125] ++ [13, 10]) ++ (l ++ ([13] ++ [10])) by simp]
    rw [feedS_app, h1, feedS_app, feed_lits, h3]
    rfl
/-- What the law TokenLiterals feeds. -/
theorem feed_literal {tag : List UInt8} (hw : plainW tag) (l : List UInt8) (hl : l.length ≤ 2000) : feedS emptyI (tag ++ [32, 123] ++ digs l.length ++ [125, 10] ++ l ++ [32, 120, 10]) = (emptyI, [(2, []), (1, [tag ++ [32], l, [32, 120]])]) := by
  have h1 := feed_head hw hl false
  rw [show (if (false : Bool) = true then ([13, 10] : List UInt8) else [10]) = [10] from rfl] at h1
  have h3 := feed_tail [tag ++ [32], l] [32, 120] (by simp) (fun c hc => by simp at hc; rcases hc with rfl | rfl <;> decide)
  rw [show tag ++ [32, 123] ++ digs l.length ++ [125, 10] ++ l ++ [32, 120, 10] = (tag ++ [32, 123] ++ digs l.length ++ [125] ++ [10]) ++ (l ++ ([32, 120] ++ [10])) by simp]
  rw [feedS_app, h1, feedS_app, feed_lits, h3]
  rfl
/- law23.plain. -/
open Go Go.Ab

theorem br_sb (c x y : Bool) : br c (some (bv x)) (some (bv y)) = some (bv (cond c x y)) := by cases c <;> rfl
def plainX (n : Int) : Bool := cond (decide (w8 ((((BitVec.ofInt 8 n ||| BitVec.ofInt 8 32).toNat : Nat) : Int)) < 97)) (cond (decide (n < 48)) (n != 32) (cond (decide (n > 57)) (n != 32) false)) (cond (decide (w8 ((((BitVec.ofInt 8 n ||| BitVec.ofInt 8 32).toNat : Nat) : Int)) > 122)) (cond (decide (n < 48)) (n != 32) (cond (decide (n > 57)) (n != 32) false)) false)
theorem plain_all : ∀ n : Fin 256, plainX ((n.1 : Nat) : Int) = !plainC (UInt8.ofNat n.1) := by decide +kernel
theorem plainX_c (c : UInt8) : plainX (c.toNat : Int) = !plainC c := by
  have h := plain_all ⟨c.toNat, c.toNat_lt⟩
  rw [UInt8.ofNat_toNat] at h
  exact h
abbrev encPl (a : List UInt8 × Nat) : Slaw23_plain_0 := .s0 (bs a.1) (a.2 : Int)
def outPl (a : List UInt8 × Nat) : Olaw23_plain_0 := match ((a.1.drop a.2).take (301 - a.2)).all plainC with
  | true => .x1 (bs a.1)
  | false => .x0 (bs a.1) false
abbrev PPl (a : List UInt8 × Nat) : Prop := a.2 ≤ a.1.length ∧ a.2 ≤ 301
theorem encPl_inj {a b : List UInt8 × Nat} (h : encPl a = encPl b) : a = b := by
  obtain ⟨l, i⟩ := a
  obtain ⟨l', i'⟩ := b
  simp [encPl, bs_inj_iff] at h
  obtain ⟨rfl, h⟩ := h
  rw [show i = i' by omega]
theorem l_Pl (K : PureK) {a : List UInt8 × Nat} (h : PPl a) : loopF (Rlaw23_plain_0 K some) encPl PPl outPl (encPl a) = some (outPl a) := by
  refine loopF_eq (fun a => 301 - a.2) ?_ (fun a b h => by rw [encPl_inj h]) h
  rintro ⟨l, i⟩ rec ⟨h1, h3⟩ hrec
  simp only [encPl, Rlaw23_plain_0, outPl] at h1 h3 hrec ⊢
  rw [bs_size]
  by_cases hi : i < l.length
  · rw [br_yesD (show (i : Int) < ((l.length : Nat) : Int) by omega)]
    simp only [optK_s, asBool_v]
    by_cases hj : i < 301
    · have hb : bt (bs l) ((i : Int)).toNat = (l[i].toNat : Int) := by rw [bt_bs, Int.toNat_natCast, List.getElem?_eq_getElem hi]; rfl
      simp only [hb]
      rw [br_yesD (show (i : Int) < 301 by omega)]
      simp only [br_yesD (show (0 : Int) ≤ (i : Int) by omega), br_yesD (show (i : Int) < ((l.length : Nat) : Int) by omega), br_sb]
      have hc := plainX_c l[i]
      unfold plainX at hc
      rw [hc]
      simp only [optK_s, asBool_v]
      rw [List.drop_eq_getElem_cons hi, show 301 - i = (301 - (i + 1)) + 1 by omega, List.take_succ_cons, List.all_cons]
      cases hp : plainC l[i] with
      | false => rfl
      | true =>
        rw [Bool.not_true, br_f, w64_id (n := (i : Int) + 1) (by omega) (by omega), Bool.true_and]
        exact hrec (l, i + 1) ⟨hi, by simp; omega⟩ (by simp; omega)
    · rw [br_noD (show ¬ (i : Int) < 301 by omega), show 301 - i = 0 by omega]
      rfl
  · rw [br_noD (show ¬ (i : Int) < ((l.length : Nat) : Int) by omega), List.drop_eq_nil_of_le (by omega)]
    simp only [List.take_nil, List.all_nil]
    rfl
def plainB (l : List UInt8) : Bool := l.all plainC && decide (l.length ≤ 300)
theorem plainB_iff {l : List UInt8} : plainB l = true ↔ plainW l := by
  unfold plainB plainW
  simp
abbrev encP1 (l : List UInt8) : List AV := [sv (bs l)]
noncomputable abbrev E_plain := callF X f_law23_plain encP1 (fun _ => True) fun l => bv (plainB l)
theorem t_plain (K : PureK) (l : List UInt8) : Rlaw23_plain K (loopF (Rlaw23_plain_0 K some) encPl PPl outPl) (bs l) = some (bv (plainB l)) := by
  unfold Rlaw23_plain
  rw [show Slaw23_plain_0.s0 (bs l) 0 = encPl (l, 0) from rfl, l_Pl K (a := (l, 0)) ⟨Nat.zero_le _, by simp⟩, optK_s]
  unfold outPl plainB
  simp only [List.drop_zero, Nat.sub_zero]
  by_cases hl : l.length ≤ 300
  · rw [List.take_of_length_le (by omega)]
    cases hc : l.all plainC with
    | true =>
      simp only [Olaw23_plain_0.k, bs_size]
      rw [decide_eq_true (show ((l.length : Nat) : Int) ≤ 300 by omega), decide_eq_true hl]
      rfl
    | false => rfl
  · rw [decide_eq_false hl, Bool.and_false]
    cases hc : (l.take 301).all plainC with
    | true =>
      simp only [Olaw23_plain_0.k, bs_size]
      rw [decide_eq_false (show ¬ ((l.length : Nat) : Int) ≤ 300 by omega)]
    | false => rfl
theorem k_plain {T : Tab} (hT : tabK T f_law23_plain = E_plain) (l : List UInt8) : tabK T f_law23_plain [sv (bs l)] = some (bv (plainB l)) := by
  rw [hT]
  exact callF_eq (g := f_law23_plain) (enc := encP1) (P := fun _ => True) (f := fun l => bv (plainB l)) (fun a h => pclaw23_plain ok_nil loopF_ok (t_plain (tabK []) a)) (fun a b h => by
    have : a = b := by simpa [encP1, bs_inj_iff] using h
    rw [this]) trivial
/- The law TokenLiterals, plain. -/
open Go Go.Ab

noncomputable def tbX : Tab := (f_law23_plain, E_plain) :: tbL
theorem tbX_ok : TabOk X tbX := tab_cons callQ_ok tbL_ok
theorem dg {k : Nat} (h : k ≤ 9) : UInt8.ofNat (w8 (w64 (48 + (k : Int)))).toNat = UInt8.ofNat (48 + k) := by
  rw [w64_id (by omega) (by omega), w8_idn (by omega) (by omega), show (48 + (k : Int)).toNat = 48 + k by omega]
theorem dig_arr {n : Nat} (h : n ≤ 2000) : ({ data := [UInt8.ofNat (w8 (w64 (48 + (((n : Nat) : Int)).tmod 10))).toNat, UInt8.ofNat (w8 (w64 (48 + (w64 ((((n : Nat) : Int)).tdiv 10)).tmod 10))).toNat, UInt8.ofNat (w8 (w64 (48 + (w64 ((((n : Nat) : Int)).tdiv 100)).tmod 10))).toNat, UInt8.ofNat (w8 (w64 (48 + w64 ((((n : Nat) : Int)).tdiv 1000)))).toNat].reverse.toArray } : ByteArray) = bs (digs n) := by
  have t1 : ((n : Nat) : Int).tdiv 10 = ((n / 10 : Nat) : Int) := (Int.ofNat_tdiv n 10).symm
  have t2 : ((n : Nat) : Int).tdiv 100 = ((n / 100 : Nat) : Int) := (Int.ofNat_tdiv n 100).symm
  have t3 : ((n : Nat) : Int).tdiv 1000 = ((n / 1000 : Nat) : Int) := (Int.ofNat_tdiv n 1000).symm
  have m0 : ∀ k : Nat, ((k : Nat) : Int).tmod 10 = ((k % 10 : Nat) : Int) := fun k => (Int.ofNat_tmod k 10).symm
  rw [t1, t2, t3, w64_id (n := ((n / 10 : Nat) : Int)) (by omega) (by omega), w64_id (n := ((n / 100 : Nat) : Int)) (by omega) (by omega), w64_id (n := ((n / 1000 : Nat) : Int)) (by omega) (by omega), m0, m0, m0, dg (by omega), dg (by omega), dg (by omega), dg (by omega)]
  rfl
theorem t_Literals (bn : Bool) (b : List UInt8) (s : List UInt8) : Rlaw23_TokenLiterals (tabK tbX) bn (uvs b) (bs s) = some (bv true) := by
  unfold Rlaw23_TokenLiterals
  rw [show tabK tbX f_law23_alive [] = some (bv true) from rfl, uvs_len]
  simp only [optK_s, asBool_v, Bool.not_true, br_f]
  by_cases c1 : b.length > 2000
  · rw [br_yesD (by omega)]
    rfl
  rw [br_noD (by omega), k_plain (T := tbX) rfl]
  simp only [optK_s, asBool_v]
  cases hp : plainB s with
  | false => rfl
  | true =>
    have hw := plainB_iff.1 hp
    have hs := hw.2
    simp only [Bool.not_true, br_f]
    rw [dig_arr (by omega)]
    rw [show ({ data := #[32, 123] } : ByteArray) = bs [32, 123] from rfl, show ({ data := #[125, 10] } : ByteArray) = bs [125, 10] from rfl, show ({ data := #[] } : ByteArray) = bs [] from rfl, show ({ data := #[32] } : ByteArray) = bs [32] from rfl, show ({ data := #[32, 120] } : ByteArray) = bs [32, 120] from rfl]
    simp only [cat_bs, bs_size]
    have hrows : ∀ x : List UInt8, bytesRows (bs x) = uvs x := bytesRows_bs
    simp only [hrows, show [uv 32, uv 120, uv 10] = uvs [32, 120, 10] from rfl, uvs_app, uvs_len]
    have hf := feed_literal hw b (by omega)
    obtain ⟨X', hX⟩ : ∃ X', X' = s ++ [32, 123] ++ digs b.length ++ [125, 10] ++ b ++ [32, 120, 10] := ⟨_, rfl⟩
    have hl : X'.length ≤ 2400 := by rw [hX]; simp [digs]; omega
    obtain ⟨k1, hk⟩ := k_tFeed (T := tbX) rfl true emptyI false X' ⟨by simp [emptyI], by simp [emptyI], by simp only []; omega⟩
    rw [feedR_ok right_empty, hX, hf] at hk
    have hk' : tabK tbX f_token_Feed [AV.agg [AV.lst 1 true [], sv (bs []), iv 0, iv 0], AV.lst 1 false (uvs X')] = some (.tup [AV.agg [AV.lst 1 k1 [], sv (bs []), iv 0, iv 0], AV.lst 2 false [outAV (2, []), outAV (1, [s ++ [32], b, [32, 120]])]]) := by rw [hX]; exact hk
    have hsm : tabK tbX f_ref23_Same [AV.agg [AV.lst 1 k1 [], sv (bs []), iv 0, iv 0], AV.agg [AV.lst 1 true [], sv (bs []), iv 0, iv 0]] = some (bv true) := by
      have := k_rSame (T := tbX) rfl k1 emptyI true emptyI (by simp [emptyI])
      rw [sameI_self] at this
      exact this
    rw [← hX]
    have hdl : (digs b.length).length = 4 := rfl
    rw [br_pos (maxStr_ok (by omega)), br_pos (maxStr_ok (by simp; omega)), br_pos (maxStr_ok (by simp; omega)), br_pos (lenOks_of (by first | omega | (simp; done) | (simp; omega)) (by first | omega | (simp; done) | (simp; omega))), br_pos (lenOks_of (by first | omega | (simp; done) | (simp; omega)) (by first | omega | (simp; done) | (simp; omega))), hk']
    simp only [optK_s, asTup2, List.getD_cons_zero, List.getD_cons_succ, asAgg4, asLst_v, asStr_v, asInt_v, outAV, asAgg2]
    have hm1 : (s.length + 1).ble maxStr = true := maxStr_ok (by omega)
    have hq1 : strEq (bs (s ++ [32])) (bs (s ++ [32])) = true := by rw [strEq_bs]; simp
    have hq2 : strEq (bs b) ({ data := b.toArray } : ByteArray) = true := by
      show strEq (bs b) (bs b) = true
      rw [strEq_bs]; simp
    have hq3 : strEq (bs [32, 120]) (bs [32, 120]) = true := by rw [strEq_bs]; rfl
    simp only [List.isEmpty_nil, List.isEmpty_cons, svL, List.map_cons, List.map_nil, List.length_cons, List.length_nil, List.getElem?_cons_zero, List.getElem?_cons_succ, optK_s, asAgg2, asInt_v, asLst_v, asStr_v, List.getD_cons_zero, List.getD_cons_succ, rowsBytes_uvs, List.length_singleton, hm1, hq1, hq2, hq3, br_t, hsm, asBool_v]
    simp [hm1, br_t, hsm, hq1, hq2, hq3, optK_s, asBool_v]
end Go.Proofs.YtphbfkncimifoaaDoor
