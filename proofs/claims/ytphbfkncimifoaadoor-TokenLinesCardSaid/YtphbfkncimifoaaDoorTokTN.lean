import Derived.Test.YtphbfkncimifoaaDoorTokH
import Derived.Test.YtphbfkncimifoaaDoorToldK4
set_option linter.unusedVariables false
set_option linter.unusedSimpArgs false
set_option maxRecDepth 100000
namespace Go.Proofs.YtphbfkncimifoaaDoor
/- The program's literal; bytes.Cut at one byte. -/
open Go Go.Ab

/-! where a byte is first -/
def cutL (c : UInt8) : List UInt8 → Option (List UInt8 × List UInt8)
  | [] => none
  | x :: xs => match x == c with
    | true => some ([], xs)
    | false => match cutL c xs with
      | some (a, b) => some (x :: a, b)
      | none => none
theorem cutL_some {c : UInt8} : ∀ {l a b : List UInt8}, cutL c l = some (a, b) → l = a ++ c :: b ∧ c ∉ a
  | [], a, b, h => by cases h
  | x :: xs, a, b, h => by
    unfold cutL at h
    cases hx : x == c with
    | true =>
      rw [hx] at h
      simp at h
      obtain ⟨rfl, rfl⟩ := h
      have : x = c := by simpa using hx
      subst this
      exact ⟨rfl, by simp⟩
    | false =>
      rw [hx] at h
      simp only [] at h
      split at h
      · rename_i a' b' h'
        simp at h
        obtain ⟨rfl, rfl⟩ := h
        obtain ⟨e1, e2⟩ := cutL_some h'
        have hx : ¬ x = c := by simpa using hx
        exact ⟨by rw [e1]; rfl, by simp; exact ⟨fun h => hx h.symm, e2⟩⟩
      · cases h
theorem cutL_none {c : UInt8} : ∀ {l : List UInt8}, cutL c l = none → c ∉ l
  | [], _ => by simp
  | x :: xs, h => by
    unfold cutL at h
    cases hx : x == c with
    | true => rw [hx] at h; cases h
    | false =>
      rw [hx] at h
      simp only [] at h
      split at h
      · cases h
      · rename_i h'
        have hx : ¬ x = c := by simpa using hx
        simp
        exact ⟨fun h => hx h.symm, cutL_none h'⟩
theorem firstIdx_cut (c : UInt8) (l : List UInt8) : firstIdx (bs l) c = match cutL c l with
    | some (a, _) => (a.length : Int)
    | none => -1 := by
  cases h : cutL c l with
  | none => exact firstIdx_no (cutL_none h)
  | some p =>
    obtain ⟨a, b⟩ := p
    obtain ⟨e1, e2⟩ := cutL_some h
    rw [e1]
    exact firstIdx_at e2

/-! bytes.Cut -/
noncomputable def tbCut1 : Tab := [(f_bytes_IndexByte, E_IndexByte)]
theorem tbCut1_ok : TabOk X tbCut1 := tab_cons callQ_ok tab_nil
abbrev encCu (a : Bool × List UInt8 × UInt8) : List AV := [.lst 1 a.1 (uvs a.2.1), .lst 1 false [uv a.2.2.toNat]]
theorem encCu_inj {a b : Bool × List UInt8 × UInt8} (h : encCu a = encCu b) : a = b := by
  obtain ⟨n, l, c⟩ := a
  obtain ⟨n', l', c'⟩ := b
  simp [encCu, uvs_inj_iff] at h
  obtain ⟨⟨rfl, rfl⟩, h⟩ := h
  rw [u8_inj h]
noncomputable abbrev E_bIndex := callF X f_bytes_Index encCu (fun _ => True) fun a => iv (firstIdx (bs a.2.1) a.2.2)
noncomputable def tbCut2 : Tab := [(f_bytes_Index, E_bIndex)]
theorem tbCut2_ok : TabOk X tbCut2 := tab_cons callQ_ok tab_nil
theorem k_bIndex (n : Bool) (l : List UInt8) (c : UInt8) : tabK tbCut2 f_bytes_Index [.lst 1 n (uvs l), .lst 1 false [uv c.toNat]] = some (iv (firstIdx (bs l) c)) :=
  callF_eq (g := f_bytes_Index) (enc := encCu) (P := fun _ => True) (f := fun a => iv (firstIdx (bs a.2.1) a.2.2)) (fun a _ => pcbytes_Index__one (tab_ok _ tbCut1_ok) (by
    unfold Rbytes_Index__one
    rw [k_IndexByte rfl]
    rfl)) (fun a b h => by rw [encCu_inj h]) (a := (n, l, c)) trivial
def cutR (n : Bool) (l : List UInt8) (c : UInt8) : AV := match cutL c l with
  | some (a, b) => .tup [.lst 1 n (uvs a), .lst 1 n (uvs b), bv true]
  | none => .tup [.lst 1 n (uvs l), .lst 1 true [], bv false]
theorem t_Cut (n : Bool) (l : List UInt8) (c : UInt8) (hl : l.length ≤ 1000000000) : Rbytes_Cut (tabK tbCut2) n (uvs l) false [uv c.toNat] = some (cutR n l c) := by
  unfold Rbytes_Cut cutR
  rw [k_bIndex]
  have hfi := firstIdx_cut c l
  generalize firstIdx (bs l) c = fi at hfi
  simp only [optK_s, asInt_v, uvs_len]
  rw [show ([uv (c.toNat : Int)] : List AV).length = 1 from rfl]
  cases h : cutL c l with
  | none =>
    rw [h] at hfi
    subst hfi
    rfl
  | some p =>
    obtain ⟨a, b⟩ := p
    obtain ⟨e1, e2⟩ := cutL_some h
    rw [h] at hfi
    simp only [] at hfi ⊢
    subst hfi
    have hlen : l.length = a.length + b.length + 1 := by rw [e1]; simp; omega
    rw [br_yesD (by omega), br_yesD (by omega), br_yesD (by omega), w64_id (by omega) (by omega), br_yesD (by omega), br_yesD (by omega), Int.toNat_natCast, uvs_take, uvs_drop, show ((a.length : Int) + ((1 : Nat) : Int)).toNat = a.length + 1 by omega]
    rw [e1, List.take_left' rfl, show a ++ c :: b = (a ++ [c]) ++ b by simp, List.drop_left' (by simp)]
noncomputable abbrev E_Cut := callF X f_bytes_Cut encCu (fun a => a.2.1.length ≤ 1000000000) fun a => cutR a.1 a.2.1 a.2.2
theorem k_Cut {T : Tab} (hT : tabK T f_bytes_Cut = E_Cut) (n : Bool) (l : List UInt8) (c : UInt8) (hl : l.length ≤ 1000000000) : tabK T f_bytes_Cut [.lst 1 n (uvs l), .lst 1 false [uv c.toNat]] = some (cutR n l c) := by
  rw [hT]
  exact callF_eq (g := f_bytes_Cut) (enc := encCu) (P := fun a => a.2.1.length ≤ 1000000000) (f := fun a => cutR a.1 a.2.1 a.2.2) (fun a h => pcbytes_Cut (tab_ok _ tbCut2_ok) (t_Cut a.1 a.2.1 a.2.2 h)) (fun a b h => by rw [encCu_inj h]) (a := (n, l, c)) hl

/-! literal -/
theorem numGo_app : ∀ (l : List UInt8) (n : Int) (c : UInt8), numGo (l ++ [c]) n = numGo l n * 10 + ((c.toNat : Int) - 48)
  | [], n, c => rfl
  | x :: l, n, c => by simp only [List.cons_append, numGo]; exact numGo_app l _ c
theorem refGo_no : ∀ {l : List UInt8} (n : Int) (k : Nat), (123 : UInt8) ∉ l → refGo l n k = none
  | [], n, k, _ => rfl
  | x :: l, n, k, h => by
    have h1 : (x == 123) = false := by simp; rintro rfl; simp at h
    have h2 : (123 : UInt8) ∉ l := fun hm => h (List.mem_cons_of_mem _ hm)
    unfold refGo
    rw [h1]
    simp only []
    split
    · exact refGo_no _ _ h2
    · rfl
theorem refGo_at (y : List UInt8) : ∀ (x : List UInt8) (n : Int) (k : Nat), (123 : UInt8) ∉ x → refGo (x ++ 123 :: y) n k = match x.all isDig && decide (k + x.length ≤ 10) || decide (x = []) with
    | true => some (y.reverse, n + 10 ^ k * numGo x.reverse 0, decide (1 ≤ k + x.length))
    | false => none
  | [], n, k, h => by simp [refGo, numGo]
  | c :: x, n, k, h => by
    have h1 : (c == 123) = false := by simp; rintro rfl; simp at h
    have h2 : (123 : UInt8) ∉ x := fun hm => h (List.mem_cons_of_mem _ hm)
    simp only [List.cons_append]
    unfold refGo
    rw [h1]
    simp only []
    rw [refGo_at y x _ _ h2]
    simp only [List.all_cons, List.reverse_cons, numGo_app, List.length_cons, reduceCtorEq, decide_false, Bool.or_false]
    cases hc : isDig c with
    | false => rfl
    | true =>
      simp only [Bool.true_and]
      by_cases hk : k < 10
      · rw [decide_eq_true hk]
        simp only []
        have e1 : (x.all isDig && decide (k + 1 + x.length ≤ 10) || decide (x = [])) = (x.all isDig && decide (k + (x.length + 1) ≤ 10)) := by
          cases x with
          | nil =>
            rw [decide_eq_true (show k + (([] : List UInt8).length + 1) ≤ 10 by simp; omega)]
            simp
          | cons z x =>
            rw [show k + 1 + (z :: x).length = k + ((z :: x).length + 1) by omega]
            simp
        rw [e1]
        cases x.all isDig && decide (k + (x.length + 1) ≤ 10) with
        | false => rfl
        | true =>
          simp only []
          congr 2
          · congr 1
            · rw [Int.pow_succ]
              have : (10 : Int) ^ k * 10 * numGo x.reverse 0 = 10 ^ k * (numGo x.reverse 0 * 10) := by rw [Int.mul_assoc, Int.mul_comm 10]
              rw [this, Int.mul_add]
              omega
            · rw [decide_eq_decide]
              omega
      · rw [decide_eq_false hk, decide_eq_false (show ¬ k + (x.length + 1) ≤ 10 by omega), Bool.and_false]
theorem last_split {c : UInt8} {l : List UInt8} (h : c ∈ l) : ∃ a b, l = a ++ c :: b ∧ c ∉ b := by
  obtain ⟨a, b, e, hn⟩ := mem_split (l := l.reverse) (c := c) (by simpa using h)
  refine ⟨b.reverse, a.reverse, ?_, by simpa using hn⟩
  have := congrArg List.reverse e
  simpa using this
theorem lastGo_at (c : UInt8) (y : List UInt8) : ∀ {x : List UInt8}, c ∉ x → lastGo c (x ++ c :: y) = y.length
  | [], _ => by simp [lastGo]
  | z :: x, h => by
    have h1 : ¬ z = c := by rintro rfl; simp at h
    simp only [List.cons_append, lastGo, if_neg h1]
    exact lastGo_at c y fun hm => h (List.mem_cons_of_mem _ hm)
theorem lastGo_no (c : UInt8) : ∀ {x : List UInt8}, c ∉ x → lastGo c x = -1
  | [], _ => rfl
  | z :: x, h => by
    have h1 : ¬ z = c := by rintro rfl; simp at h
    simp only [lastGo, if_neg h1]
    exact lastGo_no c fun hm => h (List.mem_cons_of_mem _ hm)
noncomputable def tbLit : Tab := [(f_strings_CutSuffix, E_CutSuffix), (f_strings_LastIndexByte, E_LastIndex), (f_strings_Trim, e_Trim), (f_strconv_Atoi, e_iAtoi)]
theorem tbLit_ok : TabOk X tbLit := tab_cons callQ_ok (tab_cons callQ_ok (tab_cons e_Trim_ok (tab_cons e_Atoi_ok tab_nil)))
def litT (s : List UInt8) : AV := match litL s with
  | some (b, n) => .tup [sv (bs b), iv n, bv true]
  | none => .tup [sv (bs []), iv 0, bv false]
theorem kL_Trim {l : List UInt8} (h : l.length ≤ 1000000000) : tabK tbLit f_strings_Trim [sv (bs l), sv (bs digL)] = some (sv (bs (trimB isDig l))) := by
  show e_Trim [sv (bs l), sv (bs digL)] = _
  unfold e_Trim
  simp only []
  rw [bs_list, bs_list, bs_size]
  rw [br_pos (by simp [h])]
theorem kL_Atoi {l : List UInt8} (h : l.all isDig = true) (h1 : 1 ≤ l.length) (h2 : l.length ≤ 18) : tabK tbLit f_strconv_Atoi [sv (bs l)] = some (.tup [iv (numGo l 0), .v .nilIface]) := by
  show e_iAtoi [sv (bs l)] = _
  unfold e_iAtoi
  simp only []
  rw [bs_list, br_pos (by simp [h, h1, h2])]
theorem t_literal (s : List UInt8) (hs : s.length ≤ 1000000000) : Rtoken_literal (tabK tbLit) (bs s) = some (litT s) := by
  unfold Rtoken_literal
  have e125 : ({ data := #[125] } : ByteArray) = bs [125] := rfl
  have edig : ({ data := #[48, 49, 50, 51, 52, 53, 54, 55, 56, 57] } : ByteArray) = bs digL := rfl
  rw [e125, edig, emp, k_CutSuffix (T := tbLit) rfl s 125 hs]
  simp only [optK_s, asTup2, List.getD_cons_zero, List.getD_cons_succ, asStr_v, asBool_v]
  have hcl := cutSuf_len s 125
  have := k_LastIndex (T := tbLit) rfl (cutSuf s 125) 123 (by omega)
  rw [show (((123 : UInt8).toNat : Nat) : Int) = 123 from rfl] at this
  rw [this]
  simp only [optK_s, asInt_v]
  have hno : (hasSuf s 125 = false ∨ ∃ r, s = r ++ [125]) := by
    rcases suf_cases s 125 with ⟨r, rfl⟩ | rfl | ⟨r, d, rfl, hd⟩
    · exact .inr ⟨r, rfl⟩
    · exact .inl rfl
    · exact .inl (hasSuf_no r hd)
  rcases hno with h | ⟨r, rfl⟩
  · rw [h]
    have hl : litL s = none := by
      unfold litL
      rcases suf_cases s 125 with ⟨r, rfl⟩ | rfl | ⟨r, d, rfl, hd⟩
      · rw [hasSuf_yes] at h; cases h
      · rfl
      · simp only [List.reverse_append, List.reverse_singleton, List.singleton_append]
        rw [show (d == 125) = false by simpa using hd]
    unfold litT
    rw [hl]
    rfl
  · rw [hasSuf_yes, show cutSuf (r ++ [125]) 125 = r by unfold cutSuf; rw [hasSuf_yes]; simp]
    have hlit : litL (r ++ [125]) = match refGo r.reverse 0 0 with
      | some (b, n, true) => some (b, n)
      | _ => none := by
      unfold litL
      simp only [List.reverse_append, List.reverse_singleton, List.singleton_append]
      rfl
    unfold litT
    rw [hlit]
    simp only [Bool.not_true, br_f, lastIdx]
    simp only [List.length_append, List.length_singleton] at hs
    by_cases hm : (123 : UInt8) ∈ r
    · obtain ⟨b, d, rfl, hd⟩ := last_split hm
      have hd' : (123 : UInt8) ∉ d.reverse := by simpa using hd
      simp only [List.reverse_append, List.reverse_cons, List.append_assoc, List.singleton_append]
      rw [lastGo_at 123 _ hd', refGo_at _ _ 0 0 hd']
      simp only [List.length_reverse, List.reverse_reverse, List.all_reverse, Nat.zero_add, List.reverse_eq_nil_iff, Int.pow_zero, Int.one_mul, Int.zero_add]
      simp only [List.length_append, List.length_cons] at hs
      rw [show decide ((b.length : Int) < 0) = false by rw [decide_eq_false_iff_not]; omega]
      simp only [optK_s, asBool_v, br_f, bs_size, List.length_append, List.length_cons]
      rw [w64_id (by omega) (by omega), br_yesD (by omega), br_yesD (by omega), cut_from, show ((b.length : Int) + 1).toNat = b.length + 1 by omega, show b ++ 123 :: d = (b ++ [123]) ++ d by simp, List.drop_left' (by simp), strEq_bs, bs_size]
      cases d with
      | nil => rfl
      | cons z d =>
        rw [show ((z :: d : List UInt8) == []) = false from rfl, br_f, show decide ((z :: d : List UInt8) = []) = false by simp, Bool.or_false]
        by_cases h10 : (z :: d).length ≤ 10
        · rw [br_noD (by omega), kL_Trim (by omega), decide_eq_true h10, Bool.and_true]
          simp only [optK_s, asStr_v, strEq_bs, trimB_nil, asBool_v]
          cases ha : (z :: d).all isDig with
          | false => rfl
          | true =>
            rw [Bool.not_true, br_f, kL_Atoi ha (by simp) (by omega)]
            simp only [optK_s, asTup2, List.getD_cons_zero, List.getD_cons_succ, asInt_v]
            rw [br_pos (by rfl), br_yesD (by omega), br_yesD (by simp; omega), cut_to, Int.toNat_natCast, List.append_assoc, List.take_left' rfl, decide_eq_true (show 1 ≤ (z :: d).length by simp)]
        · rw [br_yesD (by omega), decide_eq_false h10, Bool.and_false]
          rfl
    · have hr : (123 : UInt8) ∉ r.reverse := by simpa using hm
      simp only [lastGo_no 123 hr, refGo_no 0 0 hr]
      rfl
noncomputable abbrev E_literal := callF X f_token_literal encS1 (fun a => a.length ≤ 1000000000) litT
theorem k_literal {T : Tab} (hT : tabK T f_token_literal = E_literal) (s : List UInt8) (hl : s.length ≤ 1000000000) : tabK T f_token_literal [sv (bs s)] = some (litT s) := by
  rw [hT]
  exact callF_eq (g := f_token_literal) (enc := encS1) (P := fun a => a.length ≤ 1000000000) (f := litT) (fun a h => pctoken_literal (tab_ok _ tbLit_ok) (t_literal a h)) (fun a b h => by rw [encS1_inj h]) (a := s) hl
/- One step of the program's Feed, plain. -/
open Go Go.Ab

theorem feed_text (ps : List (List UInt8)) (ne : Int) : ∀ (x t : List UInt8), t.length + x.length ≤ 400 → (10 : UInt8) ∉ x → feedS ⟨ps, t, 0, ne⟩ x = (⟨ps, t ++ x, 0, ne⟩, [])
  | [], t, _, _ => by simp [feedS]
  | c :: x, t, h, hn => by
    simp only [List.length_cons] at h
    have h1 : ¬ c = 10 := by rintro rfl; simp at hn
    have ho : oneS ⟨ps, t, 0, ne⟩ c = (⟨ps, t ++ [c], 0, ne⟩, []) := by
      unfold oneS
      simp only []
      rw [if_pos (by trivial), if_neg (by omega), if_neg h1]
    simp only [feedS, ho]
    rw [feed_text ps ne x (t ++ [c]) (by simp; omega) (fun hm => hn (List.mem_cons_of_mem _ hm))]
    simp
theorem feed_lit (ps : List (List UInt8)) : ∀ (x t : List UInt8) (ne : Int), (x.length : Int) < ne → feedS ⟨ps, t, 1, ne⟩ x = (⟨ps, t ++ x, 1, ne - x.length⟩, [])
  | [], t, ne, _ => by simp [feedS]
  | c :: x, t, ne, h => by
    simp only [List.length_cons] at h
    have ho : oneS ⟨ps, t, 1, ne⟩ c = (⟨ps, t ++ [c], 1, ne - 1⟩, []) := by
      unfold oneS
      simp only []
      rw [if_neg (by omega), if_pos (by trivial), if_neg (by omega)]
    simp only [feedS, ho]
    rw [feed_lit ps x (t ++ [c]) (ne - 1) (by omega)]
    simp
    omega
theorem feed_lit_end (ps : List (List UInt8)) (x t : List UInt8) (ne : Int) (h : (x.length : Int) = ne) (hx : x ≠ []) : feedS ⟨ps, t, 1, ne⟩ x = (⟨ps ++ [t ++ x], [], 0, 0⟩, []) := by
  rcases List.eq_nil_or_concat x with rfl | ⟨y, c, rfl⟩
  · exact absurd rfl hx
  · rw [List.concat_eq_append] at *
    have hl : (y ++ [c]).length = y.length + 1 := by simp
    rw [feedS_app, feed_lit ps y t ne (by omega)]
    have ho : oneS ⟨ps, t ++ y, 1, ne - y.length⟩ c = (⟨ps ++ [t ++ y ++ [c]], [], 0, 0⟩, []) := by
      unfold oneS
      simp only []
      rw [if_neg (by omega), if_pos (by trivial), if_pos (by omega)]
    simp only [feedS, ho]
    simp
theorem feed_over : ∀ (x : List UInt8) (ne : Int), (x.length : Int) < ne → feedS ⟨[], [], 3, ne⟩ x = (⟨[], [], 3, ne - x.length⟩, [])
  | [], ne, _ => by simp [feedS]
  | c :: x, ne, h => by
    simp only [List.length_cons] at h
    have ho : oneS ⟨[], [], 3, ne⟩ c = (⟨[], [], 3, ne - 1⟩, []) := by
      unfold oneS
      simp only []
      rw [if_neg (by omega), if_neg (by omega), if_neg (by omega), if_pos (by trivial), if_neg (by omega)]
    simp only [feedS, ho]
    rw [feed_over x (ne - 1) (by omega)]
    simp
    omega
theorem feed_over_end (x : List UInt8) (ne : Int) (h : (x.length : Int) = ne) (hx : x ≠ []) : feedS ⟨[], [], 3, ne⟩ x = (⟨[], [], 4, 0⟩, []) := by
  rcases List.eq_nil_or_concat x with rfl | ⟨y, c, rfl⟩
  · exact absurd rfl hx
  · rw [List.concat_eq_append] at *
    have hl : (y ++ [c]).length = y.length + 1 := by simp
    rw [feedS_app, feed_over y ne (by omega)]
    have ho : oneS ⟨[], [], 3, ne - y.length⟩ c = (⟨[], [], 4, 0⟩, []) := by
      unfold oneS
      simp only []
      rw [if_neg (by omega), if_neg (by omega), if_neg (by omega), if_pos (by trivial), if_pos (by omega)]
    simp only [feedS, ho]
    simp
theorem feed_skip (i : TIn) (hi : i.mode = 2 ∨ i.mode = 4) : ∀ (x : List UInt8), (10 : UInt8) ∉ x → feedS i x = (i, [])
  | [], _ => rfl
  | c :: x, hn => by
    have h1 : ¬ c = 10 := by rintro rfl; simp at hn
    have ho : oneS i c = (i, []) := by
      unfold oneS longS
      rcases hi with hi | hi
      · rw [if_neg (by omega), if_neg (by omega), if_pos hi, show (c == 10) = false by simpa using h1]
      · rw [if_neg (by omega), if_neg (by omega), if_neg (by omega), if_neg (by omega), if_neg h1]
    simp only [feedS, ho]
    rw [feed_skip i hi x (fun hm => hn (List.mem_cons_of_mem _ hm))]
    rfl

def nextT (i : TIn) (b : List UInt8) : TIn × List UInt8 × List TOut :=
  if i.mode = 0 then
    match cutL 10 (b.take (400 - i.text.length)) with
    | some (x, _) => ((lineS i.ps (cutSuf (i.text ++ x) 13)).1, b.drop (x.length + 1), (lineS i.ps (cutSuf (i.text ++ x) 13)).2)
    | none => if 400 - i.text.length < b.length then (⟨[], [], 2, 0⟩, b.drop (400 - i.text.length), []) else (⟨i.ps, i.text ++ b, i.mode, i.need⟩, [], [])
  else if i.mode = 1 then
    (if i.need ≤ b.length then (⟨i.ps ++ [i.text ++ b.take i.need.toNat], [], 0, 0⟩, b.drop i.need.toNat, []) else (⟨i.ps, i.text ++ b, i.mode, i.need - b.length⟩, [], []))
  else if i.mode = 3 then
    (if i.need ≤ b.length then (⟨i.ps, i.text, 4, 0⟩, b.drop i.need.toNat, []) else (⟨i.ps, i.text, i.mode, i.need - b.length⟩, [], []))
  else if i.mode = 2 then (match cutL 10 b with | some (_, y) => (emptyI, y, [(3, [])]) | none => (i, [], []))
  else (match cutL 10 b with | some (_, y) => (emptyI, y, []) | none => (i, [], []))

def muT (i : TIn) (b : List UInt8) : Nat := 2 * b.length + (if i.mode = 0 then 1 else 0)
theorem muT_lt {i j : TIn} {b c : List UInt8} (h : c.length < b.length) : muT j c < muT i b := by
  unfold muT
  split <;> split <;> omega
theorem feed_pair (i : TIn) (b : List UInt8) : feedS i b = ((feedS i b).1, (feedS i b).2) := rfl
structure NextOk (i : TIn) (b : List UInt8) (r : TIn × List UInt8 × List TOut) : Prop where
  feed : feedS i b = ((feedS r.1 r.2.1).1, r.2.2 ++ (feedS r.1 r.2.1).2)
  right : RightI r.1
  mu : muT r.1 r.2.1 < muT i b
  len : r.2.2.length + r.2.1.length ≤ b.length
  one : r.2.2.length ≤ 1
theorem line_len (ps : List (List UInt8)) (s : List UInt8) : (lineS ps s).2.length = 1 := by
  unfold lineS
  split
  · rfl
  · split
    · rfl
    · split <;> rfl
theorem next_ok {i : TIn} (h : RightI i) {b : List UInt8} (hb : b ≠ []) : NextOk i b (nextT i b) := by
  have hpos := List.length_pos_iff.2 hb
  obtain ⟨ps, t, mo, ne⟩ := i
  obtain ⟨h1, h2, h⟩ := h
  simp only [] at h1 h2 h
  unfold nextT
  simp only []
  rcases h with ⟨rfl, rfl, hl, hd⟩ | ⟨rfl, a, a2, hl, hd⟩ | ⟨m, rfl, rfl, rfl⟩ | ⟨rfl, a, a2, rfl, rfl⟩
  · rw [if_pos (by trivial)]
    cases hc : cutL 10 (b.take (400 - t.length)) with
    | some p =>
      obtain ⟨x, y⟩ := p
      obtain ⟨e1, e2⟩ := cutL_some hc
      simp only []
      have hxl : x.length + 1 + y.length = min (400 - t.length) b.length := by
        have := congrArg List.length e1
        simp at this
        omega
      have hbe : b = x ++ (10 :: b.drop (x.length + 1)) := by
        have h3 : b = b.take (400 - t.length) ++ b.drop (400 - t.length) := (List.take_append_drop _ _).symm
        rw [e1] at h3
        have h4 : b.drop (x.length + 1) = y ++ b.drop (400 - t.length) := by
          conv => lhs; rw [h3]
          rw [show x ++ 10 :: y ++ b.drop (400 - t.length) = (x ++ [10]) ++ (y ++ b.drop (400 - t.length)) by simp, List.drop_left' (by simp)]
        rw [h4]
        conv => lhs; rw [h3]
        simp
      refine ⟨?_, right_line h1 h2 (Nat.le_trans (cutSuf_len _ _) (by simp; omega)) hd, muT_lt (by simp; omega), ?_, ?_⟩
      · conv => lhs; rw [hbe]
        rw [feedS_app, feed_text ps 0 x t (by omega) e2]
        have ho : oneS ⟨ps, t ++ x, 0, 0⟩ 10 = lineS ps (cutSuf (t ++ x) 13) := by
          unfold oneS
          simp only []
          rw [if_pos (by trivial), if_neg (by simp; omega), if_pos (by trivial)]
        simp only [feedS, ho]
        simp
      · simp only [line_len]
        simp
        omega
      · rw [line_len]; exact Nat.le_refl _
    | none =>
      have hn := cutL_none hc
      simp only []
      by_cases hr : 400 - t.length < b.length
      · rw [if_pos hr]
        refine ⟨?_, ⟨by simp, by simp, .inr (.inr (.inl ⟨.inl rfl, rfl, rfl, rfl⟩))⟩, ?_, by simp, by simp⟩
        · simp only [List.nil_append]
          conv => lhs; rw [← List.take_append_drop (400 - t.length) b]
          rw [feedS_app, feed_text ps 0 _ t (by simp; omega) hn]
          have hne : b.drop (400 - t.length) ≠ [] := by
            intro h
            have := congrArg List.length h
            simp at this
            omega
          cases hdr : b.drop (400 - t.length) with
          | nil => exact absurd hdr hne
          | cons c q =>
            have ho : oneS ⟨ps, t ++ b.take (400 - t.length), 0, 0⟩ c = oneS ⟨[], [], 2, 0⟩ c := by
              unfold oneS
              simp only []
              rw [if_pos (by trivial), if_pos (by simp; omega), if_neg (by omega), if_neg (by omega), if_pos (by trivial)]
            simp only [feedS, ho]
            simp
        · unfold muT
          simp only [List.length_drop]
          rw [if_neg (by omega), if_pos trivial]
          omega
      · rw [if_neg hr]
        rw [List.take_of_length_le (by omega)] at hn
        refine ⟨?_, ⟨h1, h2, .inl ⟨rfl, rfl, by simp; omega, hd⟩⟩, muT_lt (by simpa using hpos), by simp, by simp⟩
        rw [feed_text ps 0 b t (by omega) hn]
        simp [feedS]
  · rw [if_neg (by omega), if_pos (by trivial)]
    by_cases hr : ne ≤ (b.length : Int)
    · rw [if_pos hr]
      have htl : ((b.take ne.toNat).length : Int) = ne := by simp; omega
      refine ⟨?_, ⟨by simp; omega, fun p hp => ?_, .inl ⟨rfl, rfl, by simp, by simp; omega⟩⟩, muT_lt (by simp; omega), by simp, by simp⟩
      · simp only [List.nil_append]
        conv => lhs; rw [← List.take_append_drop ne.toNat b]
        rw [feedS_app, feed_lit_end ps _ t ne htl (by intro h; rw [h] at htl; simp at htl; omega)]
        simp
      · simp at hp
        rcases hp with hp | rfl
        · exact h2 p hp
        · simp; omega
    · rw [if_neg hr]
      refine ⟨?_, ⟨h1, h2, .inr (.inl ⟨rfl, by simp; omega, by simp; omega, by simp; omega, hd⟩)⟩, muT_lt (by simpa using hpos), by simp, by simp⟩
      rw [feed_lit ps b t ne (by omega)]
      simp [feedS]
  · rw [if_neg (by omega), if_neg (by omega), if_neg (by omega)]
    have hR : RightI ⟨[], [], mo, 0⟩ := ⟨by simp, by simp, .inr (.inr (.inl ⟨m, rfl, rfl, rfl⟩))⟩
    rcases m with rfl | rfl
    · rw [if_pos (by trivial)]
      cases hc : cutL 10 b with
      | some p =>
        obtain ⟨x, y⟩ := p
        obtain ⟨e1, e2⟩ := cutL_some hc
        simp only []
        refine ⟨?_, right_empty, muT_lt (by rw [e1]; simp; omega), by rw [e1]; simp; omega, by simp⟩
        rw [e1, feedS_app, feed_skip _ (.inl rfl) x e2]
        have ho : oneS ⟨[], [], 2, 0⟩ 10 = (emptyI, [(3, [])]) := rfl
        simp only [feedS, ho]
        simp
      | none =>
        simp only []
        refine ⟨?_, hR, muT_lt (by simpa using hpos), by simp, by simp⟩
        rw [feed_skip _ (.inl rfl) b (cutL_none hc)]
        simp [feedS]
    · rw [if_neg (by omega)]
      cases hc : cutL 10 b with
      | some p =>
        obtain ⟨x, y⟩ := p
        obtain ⟨e1, e2⟩ := cutL_some hc
        simp only []
        refine ⟨?_, right_empty, muT_lt (by rw [e1]; simp; omega), by rw [e1]; simp; omega, by simp⟩
        rw [e1, feedS_app, feed_skip _ (.inr rfl) x e2]
        have ho : oneS ⟨[], [], 4, 0⟩ 10 = (emptyI, []) := rfl
        simp only [feedS, ho]
        simp
      | none =>
        simp only []
        refine ⟨?_, hR, muT_lt (by simpa using hpos), by simp, by simp⟩
        rw [feed_skip _ (.inr rfl) b (cutL_none hc)]
        simp [feedS]
  · rw [if_neg (by omega), if_neg (by omega), if_pos (by trivial)]
    by_cases hr : ne ≤ (b.length : Int)
    · rw [if_pos hr]
      have htl : ((b.take ne.toNat).length : Int) = ne := by simp; omega
      refine ⟨?_, ⟨by simp, by simp, .inr (.inr (.inl ⟨.inr rfl, rfl, rfl, rfl⟩))⟩, muT_lt (by simp; omega), by simp, by simp⟩
      simp only [List.nil_append]
      conv => lhs; rw [← List.take_append_drop ne.toNat b]
      rw [feedS_app, feed_over_end _ ne htl (by intro h; rw [h] at htl; simp at htl; omega)]
      simp
    · rw [if_neg hr]
      refine ⟨?_, ⟨by simp, by simp, .inr (.inr (.inr ⟨rfl, by simp; omega, by simp; omega, rfl, rfl⟩))⟩, muT_lt (by simpa using hpos), by simp, by simp⟩
      rw [feed_over b ne (by omega)]
      simp [feedS]
end Go.Proofs.YtphbfkncimifoaaDoor
