import Derived.Test.YtphbfkncimifoaaDoorTokTN
set_option linter.unusedVariables false
set_option linter.unusedSimpArgs false
set_option maxRecDepth 100000
namespace Go.Proofs.YtphbfkncimifoaaDoor
/- The program's Feed. -/
open Go Go.Ab

structure TF where
  j0 : Junk
  j1 : ByteArray × Int × Int
  n : Bool
  i : TIn
  rn : Bool
  b : List UInt8
  o : Option (List TOut)
def TF.outs (a : TF) : List TOut := a.o.getD []
def encTF (a : TF) : Stoken_Feed_0 := match a.o with
  | none => .s0 a.j0.1 a.j0.2.1 a.j0.2.2.1 a.j0.2.2.2.1 a.j0.2.2.2.2 a.j1.1 a.j1.2.1 a.j1.2.2 a.n (svL a.i.ps) (bs a.i.text) a.i.mode a.i.need a.rn (uvs a.b)
  | some l => .s1 a.j0.1 a.j0.2.1 a.j0.2.2.1 a.j0.2.2.2.1 a.j0.2.2.2.2 a.j1.1 a.j1.2.1 a.j1.2.2 a.n (svL a.i.ps) (bs a.i.text) a.i.mode a.i.need a.rn (uvs a.b) (l.map outAV)
theorem encTF_inj {a b : TF} (h : encTF a = encTF b) : a = b := by
  obtain ⟨⟨y1, y2, y3, y4, y5⟩, ⟨x1, x2, x3⟩, n, ⟨ps, t, mo, ne⟩, rn, b1, o⟩ := a
  obtain ⟨⟨y1', y2', y3', y4', y5'⟩, ⟨x1', x2', x3'⟩, n', ⟨ps', t', mo', ne'⟩, rn', b1', o'⟩ := b
  cases o with
  | none =>
    cases o' with
    | none =>
      simp only [encTF, Stoken_Feed_0.s0.injEq] at h
      obtain ⟨rfl, rfl, rfl, rfl, rfl, rfl, rfl, rfl, rfl, h1, h2, rfl, rfl, rfl, h3⟩ := h
      rw [svL_inj h1, bs_inj h2, uvs_inj h3]
    | some o' => simp [encTF] at h
  | some o =>
    cases o' with
    | none => simp [encTF] at h
    | some o' =>
      simp only [encTF, Stoken_Feed_0.s1.injEq] at h
      obtain ⟨rfl, rfl, rfl, rfl, rfl, rfl, rfl, rfl, rfl, h1, h2, rfl, rfl, rfl, h3, h4⟩ := h
      rw [svL_inj h1, bs_inj h2, uvs_inj h3, outs_inj h4]
def pushO : Option (List TOut) → List TOut → Option (List TOut)
  | none, [] => none
  | none, x :: xs => some (x :: xs)
  | some l, xs => some (l ++ xs)
theorem sameS (s : ByteArray) : sameAV (sv s) (sv s) = true := by simp [sameAV, sameV, strEq]
theorem sameI64 (n : Int) : sameAV (iv n) (iv n) = true := by simp [sameAV, sameV]
noncomputable def tbTF : Tab := [(f_token_Right, E_tRight), (f_bytes_IndexByte, E_IndexByte), (f_strings_TrimSuffix, E_TrimSuffix), (f_token_literal, E_literal), (f_slices_Concat_string_string, E_Concat), (f_bytes_Cut, E_Cut)]
theorem tbTF_ok : TabOk X tbTF := tab_cons callQ_ok (tab_cons callQ_ok (tab_cons callQ_ok (tab_cons callQ_ok (tab_cons callQ_ok (tab_cons callQ_ok tab_nil)))))
theorem kT_Concat (n : Bool) (ps : List (List UInt8)) (s : List UInt8) (h : ps.length ≤ 1000) : tabK tbTF f_slices_Concat_string_string [.lst 1 false [.lst 1 n (svL ps), .lst 1 false [sv (bs s)]]] = some (.lst 1 false (svL (ps ++ [s]))) :=
  k_Concat (T := tbTF) rfl n ps [s] (by simp) (by simp; omega)
theorem kT_Concat2 (n : Bool) (ps : List (List UInt8)) (s u : List UInt8) (h : ps.length ≤ 1000) : tabK tbTF f_slices_Concat_string_string [.lst 1 false [.lst 1 n (svL ps), .lst 1 false [sv (bs s), sv (bs u)]]] = some (.lst 1 false (svL (ps ++ [s, u]))) :=
  k_Concat (T := tbTF) rfl n ps [s, u] (by simp) (by simp; omega)
theorem kT_Index (n : Bool) (l : List UInt8) : tabK tbTF f_bytes_IndexByte [.lst 1 n (uvs l), uv 10] = some (iv (firstIdx (bs l) 10)) := k_IndexByte (T := tbTF) rfl n l 10
theorem kT_Cut (n : Bool) (l : List UInt8) (h : l.length ≤ 1000000000) : tabK tbTF f_bytes_Cut [.lst 1 n (uvs l), .lst 1 false [uv 10]] = some (cutR n l 10) := k_Cut (T := tbTF) rfl n l 10 h
abbrev PTF (a : TF) : Prop := RightI a.i ∧ a.b.length + a.outs.length ≤ 1000000 ∧ ∀ l, a.o = some l → l ≠ []
def TF.next (a : TF) (n rn : Bool) : TF := { a with n := n, i := (nextT a.i a.b).1, rn := rn, b := (nextT a.i a.b).2.1, o := pushO a.o (nextT a.i a.b).2.2 }
theorem take_min (b : List UInt8) (k : Nat) : b.take (min b.length k) = b.take k := by
  rcases Nat.le_total b.length k with h | h
  · rw [Nat.min_eq_left h, List.take_of_length_le (Nat.le_refl _), List.take_of_length_le h]
  · rw [Nat.min_eq_right h]
theorem drop_min (b : List UInt8) (k : Nat) (h : k ≤ b.length) : b.drop (min b.length k) = b.drop k := by rw [Nat.min_eq_right h]
theorem min_ite {L k : Nat} {x y : Int} (hx : x = (L : Int)) (hy : y = (k : Int)) : (if x < y then x else y) = ((min L k : Nat) : Int) := by
  subst hx
  subst hy
  split <;> omega
theorem lt_true {p : Prop} [Decidable p] {β : Type} {x y : Option β} (h : p) : br (decide p) x y = x := br_yesD h
theorem text_s0 (rec : Stoken_Feed_0 → Option Otoken_Feed_0) (j0 : Junk) (j1 : ByteArray × Int × Int) (n : Bool) (ps : List (List UInt8)) (t : List UInt8) (ne : Int) (rn : Bool) (b : List UInt8) (hp : ps.length ≤ 8) (ht : t.length ≤ 400) (hne : ne = 0) (hb : b ≠ []) (hlen : b.length + 0 ≤ 1000000) :
    ∃ n' rn', Rtoken_Feed_0 (tabK tbTF) some rec (encTF ⟨j0, j1, n, ⟨ps, t, 0, ne⟩, rn, b, (none)⟩) = rec (encTF (TF.next ⟨j0, j1, n, ⟨ps, t, 0, ne⟩, rn, b, (none)⟩ n' rn')) := by
  have hpos := List.length_pos_iff.2 hb
  subst hne
  obtain ⟨room, hroom⟩ : ∃ room, t.length + room = 400 := ⟨400 - t.length, by omega⟩
  have hr2 : 400 - t.length = room := by omega
  have hw : w64 (400 - (((bs t).size : Nat) : Int)) = (room : Int) := by rw [bs_size, w64_id (by omega) (by omega)]; omega
  have hL : (((uvs b).length : Nat) : Int) = (b.length : Int) := by rw [uvs_len]
  have hmin := min_ite hL hw
  rw [show encTF ⟨j0, j1, n, ⟨ps, t, 0, 0⟩, rn, b, (none)⟩ = .s0 j0.1 j0.2.1 j0.2.2.1 j0.2.2.2.1 j0.2.2.2.2 j1.1 j1.2.1 j1.2.2 n (svL ps) (bs t) 0 0 rn (uvs b) from rfl]
  simp only [Rtoken_Feed_0]
  rw [hmin]
  rw [br_yesD (by rw [hL]; omega), br_pos (by rfl), br_yesD (by omega), br_yesD (by rw [hL]; omega), Int.toNat_natCast, uvs_take, take_min, kT_Index]
  have hfi := firstIdx_cut 10 (b.take room)
  generalize firstIdx (bs (b.take room)) 10 = fi at hfi
  simp only [optK_s, asInt_v]
  cases hc : cutL 10 (b.take room) with
  | some p =>
    obtain ⟨x, y⟩ := p
    obtain ⟨e1, e2⟩ := cutL_some hc
    rw [hc] at hfi
    simp only [] at hfi
    subst hfi
    have hxl : x.length + 1 + y.length = min room b.length := by
      have := congrArg List.length e1
      simp at this
      omega
    have hbx : b.take x.length = x := by
      have := congrArg (List.take x.length) e1
      rw [List.take_take, Nat.min_eq_left (by omega), List.take_left' rfl] at this
      exact this
    have hm2 : (if (((uvs b).length : Nat) : Int) < (x.length : Int) then (((uvs b).length : Nat) : Int) else (x.length : Int)) = ((x.length : Nat) : Int) := by rw [if_neg (by rw [hL]; omega)]
    rw [hm2, br_yesD (by omega), br_yesD (by omega), br_yesD (by rw [hL]; omega), br_yesD (by omega), br_yesD (by rw [hL]; omega), Int.toNat_natCast, uvs_take, hbx, rowsBytes_uvs]
    simp only [optK_s, mk_bs]
    rw [br_pos (maxStr_ok (by rw [bs_size, bs_size]; omega)), br_pos (sameS _), br_pos (sameS _), uvs_drop]
    have hl3 : (((uvs (b.drop x.length)).length : Nat) : Int) = ((b.length - x.length : Nat) : Int) := by rw [uvs_len, List.length_drop]
    have hm3 : (if (((uvs (b.drop x.length)).length : Nat) : Int) < 1 then (((uvs (b.drop x.length)).length : Nat) : Int) else 1) = 1 := by rw [if_neg (by rw [hl3]; omega)]
    rw [hm3, br_yesD (by omega), br_yesD (by rw [hl3]; omega), br_yesD (by omega), br_yesD (by rw [hl3]; omega), cat_bs, k_TrimSuffix (T := tbTF) rfl (t ++ x) 13 (by simp; omega)]
    simp only [optK_s, asStr_v]
    have hcl := cutSuf_len (t ++ x) 13
    rw [k_literal (T := tbTF) rfl _ (Nat.le_trans hcl (by simp; omega)), uvs_drop, List.drop_drop, show x.length + (1 : Int).toNat = x.length + 1 from rfl, svL_len]
    simp only [optK_s]
    cases hll : litL (cutSuf (t ++ x) 13) with
    | none =>
      simp only [litT, hll, asTup3, List.getD_cons_zero, List.getD_cons_succ, asStr_v, asInt_v, asBool_v, Bool.not_false, br_t, kT_Concat n ps _ (show ps.length ≤ 1000 by omega), optK_s, asLst_v]
      exact ⟨true, rn, by simp [TF.next, nextT, hr2, hc, lineS, hll, encTF, pushO, outAV, emptyI, svL, ne_emp]⟩
    | some q =>
      obtain ⟨u, m⟩ := q
      simp only [litT, hll, asTup3, List.getD_cons_zero, List.getD_cons_succ, asStr_v, asInt_v, asBool_v, Bool.not_true, br_f]
      have hcond : br (decide (m > 2000)) (some (bv true)) (some (bv (((ps.length : Nat) : Int) == 8))) = some (bv (decide (m > 2000) || ps.length == 8)) := by
        by_cases h : m > 2000
        · rw [br_yesD h, decide_eq_true h]; rfl
        · rw [br_noD h, decide_eq_false h, Bool.false_or, Bool.eq_iff_iff.2 (show ((ps.length : Int) == 8) = true ↔ (ps.length == 8) = true by simp; omega)]
      rw [hcond]
      simp only [optK_s, asBool_v]
      cases hcc : decide (m > 2000) || ps.length == 8 with
      | true =>
        simp only [br_t, kT_Concat n ps _ (show ps.length ≤ 1000 by omega), optK_s, asLst_v]
        by_cases h0 : m = 0
        · subst h0
          rw [show ((0 : Int) == 0) = true from rfl, br_t]
          exact ⟨true, rn, by simp only [TF.next, nextT, hr2, hc, lineS, hll, hcc]; simp [encTF, pushO, outAV, svL, ne_emp]⟩
        · have h0' : (m == 0) = false := by simpa using h0
          rw [h0', br_f]
          exact ⟨true, rn, by simp only [TF.next, nextT, hr2, hc, lineS, hll, hcc, h0']; simp [encTF, pushO, outAV, svL, ne_emp]⟩
      | false =>
        by_cases h0 : m = 0
        · subst h0
          rw [br_f, show ((0 : Int) == 0) = true from rfl, br_t]
          simp only [kT_Concat2 n ps _ _ (show ps.length ≤ 1000 by omega), optK_s, asLst_v]
          exact ⟨false, rn, by simp only [TF.next, nextT, hr2, hc, lineS, hll, hcc]; simp [encTF, pushO, outAV, svL, ne_emp]⟩
        · have h0' : (m == 0) = false := by simpa using h0
          rw [br_f, h0', br_f]
          simp only [kT_Concat n ps _ (show ps.length ≤ 1000 by omega), optK_s, asLst_v]
          exact ⟨false, rn, by simp only [TF.next, nextT, hr2, hc, lineS, hll, hcc, h0']; simp [encTF, pushO, outAV, svL, ne_emp]⟩
  | none =>
    rw [hc] at hfi
    simp only [] at hfi
    subst hfi
    rw [br_noD (by omega)]
    by_cases hr : room < b.length
    · rw [br_yesD (by rw [hL, hw]; omega), br_yesD (by omega), br_yesD (by rw [hL]; omega), br_yesD (by omega), br_yesD (by rw [hL]; omega), uvs_drop, drop_min _ _ (by omega), emp]
      exact ⟨true, rn, by simp [TF.next, nextT, hr2, hc, hr, encTF, pushO, svL]⟩
    · have hmm : (if (((uvs b).length : Nat) : Int) < (((uvs b).length : Nat) : Int) then (((uvs b).length : Nat) : Int) else (((uvs b).length : Nat) : Int)) = (b.length : Int) := by rw [if_neg (by omega), hL]
      rw [br_noD (by rw [hL, hw]; omega), hmm, br_yesD (by omega), br_yesD (by rw [hL]; omega), br_yesD (by omega), br_yesD (by rw [hL]; omega), Int.toNat_natCast, uvs_take, List.take_of_length_le (Nat.le_refl _), rowsBytes_uvs]
      simp only [optK_s, mk_bs]
      rw [br_pos (maxStr_ok (by rw [bs_size, bs_size]; omega)), br_pos (sameS _), br_pos (sameS _), cat_bs, uvs_drop]
      exact ⟨n, rn, by simp [TF.next, nextT, hr2, hc, hr, encTF, pushO, svL]⟩
theorem lit_s0 (rec : Stoken_Feed_0 → Option Otoken_Feed_0) (j0 : Junk) (j1 : ByteArray × Int × Int) (n : Bool) (ps : List (List UInt8)) (t : List UInt8) (ne : Int) (rn : Bool) (b : List UInt8) (hp : ps.length ≤ 8) (ht : t.length ≤ 2000) (h1 : 1 ≤ ne) (h2 : ne ≤ 2000) (hb : b ≠ []) (hlen : b.length + 0 ≤ 1000000) :
    ∃ n' rn', Rtoken_Feed_0 (tabK tbTF) some rec (encTF ⟨j0, j1, n, ⟨ps, t, 1, ne⟩, rn, b, (none)⟩) = rec (encTF (TF.next ⟨j0, j1, n, ⟨ps, t, 1, ne⟩, rn, b, (none)⟩ n' rn')) := by
  have hpos := List.length_pos_iff.2 hb
  have hL : (((uvs b).length : Nat) : Int) = (b.length : Int) := by rw [uvs_len]
  have hmin := min_ite (k := ne.toNat) hL (show ne = ((ne.toNat : Nat) : Int) by omega)
  rw [show encTF ⟨j0, j1, n, ⟨ps, t, 1, ne⟩, rn, b, (none)⟩ = .s0 j0.1 j0.2.1 j0.2.2.1 j0.2.2.2.1 j0.2.2.2.2 j1.1 j1.2.1 j1.2.2 n (svL ps) (bs t) 1 ne rn (uvs b) from rfl]
  simp only [Rtoken_Feed_0]
  rw [hmin]
  rw [br_yesD (by rw [hL]; omega), br_neg (by rfl), br_pos (by rfl), br_yesD (by omega), br_yesD (by rw [hL]; omega), br_yesD (by omega), br_yesD (by rw [hL]; omega), Int.toNat_natCast, uvs_take, take_min, rowsBytes_uvs]
  simp only [optK_s, mk_bs]
  rw [br_pos (maxStr_ok (by rw [bs_size, bs_size, List.length_take]; omega)), cat_bs, uvs_len, uvs_drop, List.length_take]
  by_cases hr : ne ≤ (b.length : Int)
  · rw [w64_id (n := ne - ((min ne.toNat b.length : Nat) : Int)) (by omega) (by omega), show ne - ((min ne.toNat b.length : Nat) : Int) = 0 by omega, br_pos (by rfl), kT_Concat n ps _ (by omega)]
    simp only [optK_s, asLst_v]
    rw [drop_min _ _ (by omega)]
    exact ⟨false, rn, by simp [TF.next, nextT, hr, encTF, pushO, svL]⟩
  · rw [w64_id (n := ne - ((min ne.toNat b.length : Nat) : Int)) (by omega) (by omega), br_neg (by simp; omega), List.take_of_length_le (show b.length ≤ ne.toNat by omega), show min b.length ne.toNat = b.length by omega, show ne - ((min ne.toNat b.length : Nat) : Int) = ne - (b.length : Int) by omega, List.drop_length]
    exact ⟨n, rn, by simp [TF.next, nextT, hr, encTF, pushO, svL]⟩
theorem over_s0 (rec : Stoken_Feed_0 → Option Otoken_Feed_0) (j0 : Junk) (j1 : ByteArray × Int × Int) (n : Bool) (ps : List (List UInt8)) (t : List UInt8) (ne : Int) (rn : Bool) (b : List UInt8) (h1 : 1 ≤ ne) (h2 : ne ≤ 10000000000) (hb : b ≠ []) (hlen : b.length + 0 ≤ 1000000) :
    ∃ n' rn', Rtoken_Feed_0 (tabK tbTF) some rec (encTF ⟨j0, j1, n, ⟨ps, t, 3, ne⟩, rn, b, (none)⟩) = rec (encTF (TF.next ⟨j0, j1, n, ⟨ps, t, 3, ne⟩, rn, b, (none)⟩ n' rn')) := by
  have hpos := List.length_pos_iff.2 hb
  have hL : (((uvs b).length : Nat) : Int) = (b.length : Int) := by rw [uvs_len]
  have hmin := min_ite (k := ne.toNat) hL (show ne = ((ne.toNat : Nat) : Int) by omega)
  rw [show encTF ⟨j0, j1, n, ⟨ps, t, 3, ne⟩, rn, b, (none)⟩ = .s0 j0.1 j0.2.1 j0.2.2.1 j0.2.2.2.1 j0.2.2.2.2 j1.1 j1.2.1 j1.2.2 n (svL ps) (bs t) 3 ne rn (uvs b) from rfl]
  simp only [Rtoken_Feed_0]
  rw [hmin]
  rw [br_yesD (by rw [hL]; omega), br_neg (by rfl), br_neg (by rfl), br_pos (by rfl), br_yesD (by omega), br_yesD (by rw [hL]; omega), br_yesD (by omega), br_yesD (by rw [hL]; omega), Int.toNat_natCast, uvs_take, take_min, br_pos (sameI64 _), br_pos (sameI64 _), uvs_len, uvs_drop, List.length_take]
  by_cases hr : ne ≤ (b.length : Int)
  · rw [w64_id (n := ne - ((min ne.toNat b.length : Nat) : Int)) (by omega) (by omega), show ne - ((min ne.toNat b.length : Nat) : Int) = 0 by omega, br_pos (by rfl), drop_min _ _ (by omega)]
    exact ⟨n, rn, by simp [TF.next, nextT, hr, encTF, pushO, svL]⟩
  · rw [w64_id (n := ne - ((min ne.toNat b.length : Nat) : Int)) (by omega) (by omega), br_neg (by simp; omega), show min b.length ne.toNat = b.length by omega, show ne - ((min ne.toNat b.length : Nat) : Int) = ne - (b.length : Int) by omega, List.drop_length]
    exact ⟨n, rn, by simp [TF.next, nextT, hr, encTF, pushO, svL]⟩
theorem skip_s0 (rec : Stoken_Feed_0 → Option Otoken_Feed_0) (j0 : Junk) (j1 : ByteArray × Int × Int) (n : Bool) (ps : List (List UInt8)) (t : List UInt8) (mo ne : Int) (rn : Bool) (b : List UInt8) (hm : mo = 2 ∨ mo = 4) (hb : b ≠ []) (hlen : b.length + 0 ≤ 1000000) :
    ∃ n' rn', Rtoken_Feed_0 (tabK tbTF) some rec (encTF ⟨j0, j1, n, ⟨ps, t, mo, ne⟩, rn, b, (none)⟩) = rec (encTF (TF.next ⟨j0, j1, n, ⟨ps, t, mo, ne⟩, rn, b, (none)⟩ n' rn')) := by
  have hpos := List.length_pos_iff.2 hb
  have hL : (((uvs b).length : Nat) : Int) = (b.length : Int) := by rw [uvs_len]
  rw [show encTF ⟨j0, j1, n, ⟨ps, t, mo, ne⟩, rn, b, (none)⟩ = .s0 j0.1 j0.2.1 j0.2.2.1 j0.2.2.2.1 j0.2.2.2.2 j1.1 j1.2.1 j1.2.2 n (svL ps) (bs t) mo ne rn (uvs b) from rfl]
  simp only [Rtoken_Feed_0]
  rw [br_yesD (by rw [hL]; omega), kT_Cut rn b (by omega), emp]
  rcases hm with rfl | rfl
  · rw [br_neg (by rfl), br_neg (by rfl), br_neg (by rfl), br_pos (by rfl)]
    unfold cutR
    cases hc : cutL 10 b with
    | some p =>
      obtain ⟨x, y⟩ := p
      simp only [optK_s, asTup3, List.getD_cons_zero, List.getD_cons_succ, asLst_v, asBool_v, br_t]
      exact ⟨true, rn, by simp [TF.next, nextT, hc, encTF, pushO, outAV, emptyI, svL, ne_emp]⟩
    | none =>
      simp only [optK_s, asTup3, List.getD_cons_zero, List.getD_cons_succ, asLst_v, asBool_v, br_f]
      exact ⟨n, true, by simp [TF.next, nextT, hc, encTF, pushO, uvs]⟩
  · rw [br_neg (by rfl), br_neg (by rfl), br_neg (by rfl), br_neg (by rfl), br_pos (by rfl)]
    unfold cutR
    cases hc : cutL 10 b with
    | some p =>
      obtain ⟨x, y⟩ := p
      simp only [optK_s, asTup3, List.getD_cons_zero, List.getD_cons_succ, asLst_v, asBool_v, br_t]
      exact ⟨true, rn, by simp [TF.next, nextT, hc, encTF, pushO, emptyI, svL]⟩
    | none =>
      simp only [optK_s, asTup3, List.getD_cons_zero, List.getD_cons_succ, asLst_v, asBool_v, br_f]
      exact ⟨n, true, by simp [TF.next, nextT, hc, encTF, pushO, uvs]⟩
theorem text_s1 (rec : Stoken_Feed_0 → Option Otoken_Feed_0) (j0 : Junk) (j1 : ByteArray × Int × Int) (n : Bool) (ps : List (List UInt8)) (t : List UInt8) (ne : Int) (rn : Bool) (b : List UInt8) (l : List TOut) (hp : ps.length ≤ 8) (ht : t.length ≤ 400) (hne : ne = 0) (hb : b ≠ []) (hlen : b.length + l.length ≤ 1000000) :
    ∃ n' rn', Rtoken_Feed_0 (tabK tbTF) some rec (encTF ⟨j0, j1, n, ⟨ps, t, 0, ne⟩, rn, b, (some l)⟩) = rec (encTF (TF.next ⟨j0, j1, n, ⟨ps, t, 0, ne⟩, rn, b, (some l)⟩ n' rn')) := by
  have hpos := List.length_pos_iff.2 hb
  subst hne
  obtain ⟨room, hroom⟩ : ∃ room, t.length + room = 400 := ⟨400 - t.length, by omega⟩
  have hr2 : 400 - t.length = room := by omega
  have hw : w64 (400 - (((bs t).size : Nat) : Int)) = (room : Int) := by rw [bs_size, w64_id (by omega) (by omega)]; omega
  have hL : (((uvs b).length : Nat) : Int) = (b.length : Int) := by rw [uvs_len]
  have hmin := min_ite hL hw
  rw [show encTF ⟨j0, j1, n, ⟨ps, t, 0, 0⟩, rn, b, (some l)⟩ = .s1 j0.1 j0.2.1 j0.2.2.1 j0.2.2.2.1 j0.2.2.2.2 j1.1 j1.2.1 j1.2.2 n (svL ps) (bs t) 0 0 rn (uvs b) (l.map outAV) from rfl]
  simp only [Rtoken_Feed_0]
  rw [hmin]
  rw [br_yesD (by rw [hL]; omega), br_pos (by rfl), br_yesD (by omega), br_yesD (by rw [hL]; omega), Int.toNat_natCast, uvs_take, take_min, kT_Index]
  have hfi := firstIdx_cut 10 (b.take room)
  generalize firstIdx (bs (b.take room)) 10 = fi at hfi
  simp only [optK_s, asInt_v]
  cases hc : cutL 10 (b.take room) with
  | some p =>
    obtain ⟨x, y⟩ := p
    obtain ⟨e1, e2⟩ := cutL_some hc
    rw [hc] at hfi
    simp only [] at hfi
    subst hfi
    have hxl : x.length + 1 + y.length = min room b.length := by
      have := congrArg List.length e1
      simp at this
      omega
    have hbx : b.take x.length = x := by
      have := congrArg (List.take x.length) e1
      rw [List.take_take, Nat.min_eq_left (by omega), List.take_left' rfl] at this
      exact this
    have hm2 : (if (((uvs b).length : Nat) : Int) < (x.length : Int) then (((uvs b).length : Nat) : Int) else (x.length : Int)) = ((x.length : Nat) : Int) := by rw [if_neg (by rw [hL]; omega)]
    rw [hm2, br_yesD (by omega), br_yesD (by omega), br_yesD (by rw [hL]; omega), br_yesD (by omega), br_yesD (by rw [hL]; omega), Int.toNat_natCast, uvs_take, hbx, rowsBytes_uvs]
    simp only [optK_s, mk_bs]
    rw [br_pos (maxStr_ok (by rw [bs_size, bs_size]; omega)), br_pos (sameS _), br_pos (sameS _), uvs_drop]
    have hl3 : (((uvs (b.drop x.length)).length : Nat) : Int) = ((b.length - x.length : Nat) : Int) := by rw [uvs_len, List.length_drop]
    have hm3 : (if (((uvs (b.drop x.length)).length : Nat) : Int) < 1 then (((uvs (b.drop x.length)).length : Nat) : Int) else 1) = 1 := by rw [if_neg (by rw [hl3]; omega)]
    rw [hm3, br_yesD (by omega), br_yesD (by rw [hl3]; omega), br_yesD (by omega), br_yesD (by rw [hl3]; omega), cat_bs, k_TrimSuffix (T := tbTF) rfl (t ++ x) 13 (by simp; omega)]
    simp only [optK_s, asStr_v]
    have hcl := cutSuf_len (t ++ x) 13
    rw [k_literal (T := tbTF) rfl _ (Nat.le_trans hcl (by simp; omega)), uvs_drop, List.drop_drop, show x.length + (1 : Int).toNat = x.length + 1 from rfl, svL_len]
    simp only [optK_s]
    cases hll : litL (cutSuf (t ++ x) 13) with
    | none =>
      simp only [litT, hll, asTup3, List.getD_cons_zero, List.getD_cons_succ, asStr_v, asInt_v, asBool_v, Bool.not_false, br_t, kT_Concat n ps _ (show ps.length ≤ 1000 by omega), optK_s, asLst_v]
      rw [br_pos (lenOks_of (by omega) (by simp; omega))]; exact ⟨true, rn, by simp [TF.next, nextT, hr2, hc, lineS, hll, encTF, pushO, outAV, emptyI, svL, ne_emp]⟩
    | some q =>
      obtain ⟨u, m⟩ := q
      simp only [litT, hll, asTup3, List.getD_cons_zero, List.getD_cons_succ, asStr_v, asInt_v, asBool_v, Bool.not_true, br_f]
      have hcond : br (decide (m > 2000)) (some (bv true)) (some (bv (((ps.length : Nat) : Int) == 8))) = some (bv (decide (m > 2000) || ps.length == 8)) := by
        by_cases h : m > 2000
        · rw [br_yesD h, decide_eq_true h]; rfl
        · rw [br_noD h, decide_eq_false h, Bool.false_or, Bool.eq_iff_iff.2 (show ((ps.length : Int) == 8) = true ↔ (ps.length == 8) = true by simp; omega)]
      rw [hcond]
      simp only [optK_s, asBool_v]
      cases hcc : decide (m > 2000) || ps.length == 8 with
      | true =>
        simp only [br_t, kT_Concat n ps _ (show ps.length ≤ 1000 by omega), optK_s, asLst_v]
        by_cases h0 : m = 0
        · subst h0
          rw [show ((0 : Int) == 0) = true from rfl, br_t]
          rw [br_pos (lenOks_of (by omega) (by simp; omega))]; exact ⟨true, rn, by simp only [TF.next, nextT, hr2, hc, lineS, hll, hcc]; simp [encTF, pushO, outAV, svL, ne_emp]⟩
        · have h0' : (m == 0) = false := by simpa using h0
          rw [h0', br_f]
          rw [br_pos (lenOks_of (by omega) (by simp; omega))]; exact ⟨true, rn, by simp only [TF.next, nextT, hr2, hc, lineS, hll, hcc, h0']; simp [encTF, pushO, outAV, svL, ne_emp]⟩
      | false =>
        by_cases h0 : m = 0
        · subst h0
          rw [br_f, show ((0 : Int) == 0) = true from rfl, br_t]
          simp only [kT_Concat2 n ps _ _ (show ps.length ≤ 1000 by omega), optK_s, asLst_v]
          rw [br_pos (lenOks_of (by omega) (by simp; omega))]; exact ⟨false, rn, by simp only [TF.next, nextT, hr2, hc, lineS, hll, hcc]; simp [encTF, pushO, outAV, svL, ne_emp]⟩
        · have h0' : (m == 0) = false := by simpa using h0
          rw [br_f, h0', br_f]
          simp only [kT_Concat n ps _ (show ps.length ≤ 1000 by omega), optK_s, asLst_v]
          rw [br_pos (lenOks_of (by omega) (by simp; omega))]; exact ⟨false, rn, by simp only [TF.next, nextT, hr2, hc, lineS, hll, hcc, h0']; simp [encTF, pushO, outAV, svL, ne_emp]⟩
  | none =>
    rw [hc] at hfi
    simp only [] at hfi
    subst hfi
    rw [br_noD (by omega)]
    by_cases hr : room < b.length
    · rw [br_yesD (by rw [hL, hw]; omega), br_yesD (by omega), br_yesD (by rw [hL]; omega), br_yesD (by omega), br_yesD (by rw [hL]; omega), uvs_drop, drop_min _ _ (by omega), emp]
      exact ⟨true, rn, by simp [TF.next, nextT, hr2, hc, hr, encTF, pushO, svL]⟩
    · have hmm : (if (((uvs b).length : Nat) : Int) < (((uvs b).length : Nat) : Int) then (((uvs b).length : Nat) : Int) else (((uvs b).length : Nat) : Int)) = (b.length : Int) := by rw [if_neg (by omega), hL]
      rw [br_noD (by rw [hL, hw]; omega), hmm, br_yesD (by omega), br_yesD (by rw [hL]; omega), br_yesD (by omega), br_yesD (by rw [hL]; omega), Int.toNat_natCast, uvs_take, List.take_of_length_le (Nat.le_refl _), rowsBytes_uvs]
      simp only [optK_s, mk_bs]
      rw [br_pos (maxStr_ok (by rw [bs_size, bs_size]; omega)), br_pos (sameS _), br_pos (sameS _), cat_bs, uvs_drop]
      exact ⟨n, rn, by simp [TF.next, nextT, hr2, hc, hr, encTF, pushO, svL]⟩
theorem lit_s1 (rec : Stoken_Feed_0 → Option Otoken_Feed_0) (j0 : Junk) (j1 : ByteArray × Int × Int) (n : Bool) (ps : List (List UInt8)) (t : List UInt8) (ne : Int) (rn : Bool) (b : List UInt8) (l : List TOut) (hp : ps.length ≤ 8) (ht : t.length ≤ 2000) (h1 : 1 ≤ ne) (h2 : ne ≤ 2000) (hb : b ≠ []) (hlen : b.length + l.length ≤ 1000000) :
    ∃ n' rn', Rtoken_Feed_0 (tabK tbTF) some rec (encTF ⟨j0, j1, n, ⟨ps, t, 1, ne⟩, rn, b, (some l)⟩) = rec (encTF (TF.next ⟨j0, j1, n, ⟨ps, t, 1, ne⟩, rn, b, (some l)⟩ n' rn')) := by
  have hpos := List.length_pos_iff.2 hb
  have hL : (((uvs b).length : Nat) : Int) = (b.length : Int) := by rw [uvs_len]
  have hmin := min_ite (k := ne.toNat) hL (show ne = ((ne.toNat : Nat) : Int) by omega)
  rw [show encTF ⟨j0, j1, n, ⟨ps, t, 1, ne⟩, rn, b, (some l)⟩ = .s1 j0.1 j0.2.1 j0.2.2.1 j0.2.2.2.1 j0.2.2.2.2 j1.1 j1.2.1 j1.2.2 n (svL ps) (bs t) 1 ne rn (uvs b) (l.map outAV) from rfl]
  simp only [Rtoken_Feed_0]
  rw [hmin]
  rw [br_yesD (by rw [hL]; omega), br_neg (by rfl), br_pos (by rfl), br_yesD (by omega), br_yesD (by rw [hL]; omega), br_yesD (by omega), br_yesD (by rw [hL]; omega), Int.toNat_natCast, uvs_take, take_min, rowsBytes_uvs]
  simp only [optK_s, mk_bs]
  rw [br_pos (maxStr_ok (by rw [bs_size, bs_size, List.length_take]; omega)), cat_bs, uvs_len, uvs_drop, List.length_take]
  by_cases hr : ne ≤ (b.length : Int)
  · rw [w64_id (n := ne - ((min ne.toNat b.length : Nat) : Int)) (by omega) (by omega), show ne - ((min ne.toNat b.length : Nat) : Int) = 0 by omega, br_pos (by rfl), kT_Concat n ps _ (by omega)]
    simp only [optK_s, asLst_v]
    rw [drop_min _ _ (by omega)]
    exact ⟨false, rn, by simp [TF.next, nextT, hr, encTF, pushO, svL]⟩
  · rw [w64_id (n := ne - ((min ne.toNat b.length : Nat) : Int)) (by omega) (by omega), br_neg (by simp; omega), List.take_of_length_le (show b.length ≤ ne.toNat by omega), show min b.length ne.toNat = b.length by omega, show ne - ((min ne.toNat b.length : Nat) : Int) = ne - (b.length : Int) by omega, List.drop_length]
    exact ⟨n, rn, by simp [TF.next, nextT, hr, encTF, pushO, svL]⟩
theorem over_s1 (rec : Stoken_Feed_0 → Option Otoken_Feed_0) (j0 : Junk) (j1 : ByteArray × Int × Int) (n : Bool) (ps : List (List UInt8)) (t : List UInt8) (ne : Int) (rn : Bool) (b : List UInt8) (l : List TOut) (h1 : 1 ≤ ne) (h2 : ne ≤ 10000000000) (hb : b ≠ []) (hlen : b.length + l.length ≤ 1000000) :
    ∃ n' rn', Rtoken_Feed_0 (tabK tbTF) some rec (encTF ⟨j0, j1, n, ⟨ps, t, 3, ne⟩, rn, b, (some l)⟩) = rec (encTF (TF.next ⟨j0, j1, n, ⟨ps, t, 3, ne⟩, rn, b, (some l)⟩ n' rn')) := by
  have hpos := List.length_pos_iff.2 hb
  have hL : (((uvs b).length : Nat) : Int) = (b.length : Int) := by rw [uvs_len]
  have hmin := min_ite (k := ne.toNat) hL (show ne = ((ne.toNat : Nat) : Int) by omega)
  rw [show encTF ⟨j0, j1, n, ⟨ps, t, 3, ne⟩, rn, b, (some l)⟩ = .s1 j0.1 j0.2.1 j0.2.2.1 j0.2.2.2.1 j0.2.2.2.2 j1.1 j1.2.1 j1.2.2 n (svL ps) (bs t) 3 ne rn (uvs b) (l.map outAV) from rfl]
  simp only [Rtoken_Feed_0]
  rw [hmin]
  rw [br_yesD (by rw [hL]; omega), br_neg (by rfl), br_neg (by rfl), br_pos (by rfl), br_yesD (by omega), br_yesD (by rw [hL]; omega), br_yesD (by omega), br_yesD (by rw [hL]; omega), Int.toNat_natCast, uvs_take, take_min, br_pos (sameI64 _), br_pos (sameI64 _), uvs_len, uvs_drop, List.length_take]
  by_cases hr : ne ≤ (b.length : Int)
  · rw [w64_id (n := ne - ((min ne.toNat b.length : Nat) : Int)) (by omega) (by omega), show ne - ((min ne.toNat b.length : Nat) : Int) = 0 by omega, br_pos (by rfl), drop_min _ _ (by omega)]
    exact ⟨n, rn, by simp [TF.next, nextT, hr, encTF, pushO, svL]⟩
  · rw [w64_id (n := ne - ((min ne.toNat b.length : Nat) : Int)) (by omega) (by omega), br_neg (by simp; omega), show min b.length ne.toNat = b.length by omega, show ne - ((min ne.toNat b.length : Nat) : Int) = ne - (b.length : Int) by omega, List.drop_length]
    exact ⟨n, rn, by simp [TF.next, nextT, hr, encTF, pushO, svL]⟩
theorem skip_s1 (rec : Stoken_Feed_0 → Option Otoken_Feed_0) (j0 : Junk) (j1 : ByteArray × Int × Int) (n : Bool) (ps : List (List UInt8)) (t : List UInt8) (mo ne : Int) (rn : Bool) (b : List UInt8) (l : List TOut) (hm : mo = 2 ∨ mo = 4) (hb : b ≠ []) (hlen : b.length + l.length ≤ 1000000) :
    ∃ n' rn', Rtoken_Feed_0 (tabK tbTF) some rec (encTF ⟨j0, j1, n, ⟨ps, t, mo, ne⟩, rn, b, (some l)⟩) = rec (encTF (TF.next ⟨j0, j1, n, ⟨ps, t, mo, ne⟩, rn, b, (some l)⟩ n' rn')) := by
  have hpos := List.length_pos_iff.2 hb
  have hL : (((uvs b).length : Nat) : Int) = (b.length : Int) := by rw [uvs_len]
  rw [show encTF ⟨j0, j1, n, ⟨ps, t, mo, ne⟩, rn, b, (some l)⟩ = .s1 j0.1 j0.2.1 j0.2.2.1 j0.2.2.2.1 j0.2.2.2.2 j1.1 j1.2.1 j1.2.2 n (svL ps) (bs t) mo ne rn (uvs b) (l.map outAV) from rfl]
  simp only [Rtoken_Feed_0]
  rw [br_yesD (by rw [hL]; omega), kT_Cut rn b (by omega), emp]
  rcases hm with rfl | rfl
  · rw [br_neg (by rfl), br_neg (by rfl), br_neg (by rfl), br_pos (by rfl)]
    unfold cutR
    cases hc : cutL 10 b with
    | some p =>
      obtain ⟨x, y⟩ := p
      simp only [optK_s, asTup3, List.getD_cons_zero, List.getD_cons_succ, asLst_v, asBool_v, br_t]
      rw [br_pos (lenOks_of (by omega) (by simp; omega))]; exact ⟨true, rn, by simp [TF.next, nextT, hc, encTF, pushO, outAV, emptyI, svL, ne_emp]⟩
    | none =>
      simp only [optK_s, asTup3, List.getD_cons_zero, List.getD_cons_succ, asLst_v, asBool_v, br_f]
      exact ⟨n, true, by simp [TF.next, nextT, hc, encTF, pushO, uvs]⟩
  · rw [br_neg (by rfl), br_neg (by rfl), br_neg (by rfl), br_neg (by rfl), br_pos (by rfl)]
    unfold cutR
    cases hc : cutL 10 b with
    | some p =>
      obtain ⟨x, y⟩ := p
      simp only [optK_s, asTup3, List.getD_cons_zero, List.getD_cons_succ, asLst_v, asBool_v, br_t]
      exact ⟨true, rn, by simp [TF.next, nextT, hc, encTF, pushO, emptyI, svL]⟩
    | none =>
      simp only [optK_s, asTup3, List.getD_cons_zero, List.getD_cons_succ, asLst_v, asBool_v, br_f]
      exact ⟨n, true, by simp [TF.next, nextT, hc, encTF, pushO, uvs]⟩
theorem step_TF (rec : Stoken_Feed_0 → Option Otoken_Feed_0) {a : TF} (h : PTF a) (hb : a.b ≠ []) : ∃ n' rn', Rtoken_Feed_0 (tabK tbTF) some rec (encTF a) = rec (encTF (a.next n' rn')) := by
  obtain ⟨j0, j1, n, ⟨ps, t, mo, ne⟩, rn, b, o⟩ := a
  obtain ⟨⟨h1, h2, h⟩, hlen, _⟩ := h
  simp only [] at h1 h2 h hb
  cases o with
  | none =>
    simp only [TF.outs, Option.getD_none, List.length_nil] at hlen
    rcases h with ⟨rfl, c2, hl, hd⟩ | ⟨rfl, c1, c2, hl, hd⟩ | ⟨m, c2, c3, c4⟩ | ⟨rfl, c1, c2, c3, c4⟩
    · exact text_s0 rec j0 j1 n ps t ne rn b h1 hl c2 hb hlen
    · exact lit_s0 rec j0 j1 n ps t ne rn b h1 (by omega) c1 c2 hb hlen
    · exact skip_s0 rec j0 j1 n ps t mo ne rn b m hb hlen
    · exact over_s0 rec j0 j1 n ps t ne rn b c1 c2 hb hlen
  | some l =>
    simp only [TF.outs, Option.getD_some] at hlen
    rcases h with ⟨rfl, c2, hl, hd⟩ | ⟨rfl, c1, c2, hl, hd⟩ | ⟨m, c2, c3, c4⟩ | ⟨rfl, c1, c2, c3, c4⟩
    · exact text_s1 rec j0 j1 n ps t ne rn b l h1 hl c2 hb hlen
    · exact lit_s1 rec j0 j1 n ps t ne rn b l h1 (by omega) c1 c2 hb hlen
    · exact skip_s1 rec j0 j1 n ps t mo ne rn b l m hb hlen
    · exact over_s1 rec j0 j1 n ps t ne rn b l c1 c2 hb hlen
def finTF (o : Otoken_Feed_0) : Option AV := match o with
  | .x0 _ _ _ _ _ _ _ _ a b c d e _ _ => some (.tup [.agg [.lst 1 a b, sv c, iv d, iv e], .lst 2 true []])
  | .x1 _ _ _ _ _ _ _ _ a b c d e _ _ l => some (.tup [.agg [.lst 1 a b, sv c, iv d, iv e], .lst 2 false l])
abbrev QTF (a : TF) (o : Otoken_Feed_0) : Prop := ∃ m, finTF o = some (.tup [(feedS a.i a.b).1.av m, outsAV (a.outs ++ (feedS a.i a.b).2)])
theorem push_outs (o : Option (List TOut)) (x : List TOut) : (pushO o x).getD [] = o.getD [] ++ x := by
  cases o with
  | none => cases x <;> rfl
  | some l => rfl
theorem l_TF {a : TF} (h : PTF a) : ∃ o, QTF a o ∧ loopQ (Rtoken_Feed_0 (tabK tbTF) some) encTF PTF QTF (encTF a) = some o := by
  refine loopQ_eq (fun a => muT a.i a.b) ?_ (fun a b h o ho => by rw [encTF_inj h]; exact ho) h
  intro a rec hP hrec
  by_cases hb : a.b = []
  · obtain ⟨j0, j1, n, ⟨ps, t, mo, ne⟩, rn, b, o⟩ := a
    simp only [] at hb
    subst hb
    cases o with
    | none =>
      refine ⟨.x0 j0.1 j0.2.1 j0.2.2.1 j0.2.2.2.1 j0.2.2.2.2 j1.1 j1.2.1 j1.2.2 n (svL ps) (bs t) mo ne rn (uvs []), ⟨n, rfl⟩, ?_⟩
      rw [show encTF ⟨j0, j1, n, ⟨ps, t, mo, ne⟩, rn, [], none⟩ = .s0 j0.1 j0.2.1 j0.2.2.1 j0.2.2.2.1 j0.2.2.2.2 j1.1 j1.2.1 j1.2.2 n (svL ps) (bs t) mo ne rn (uvs []) from rfl]
      simp only [Rtoken_Feed_0]
      rw [br_noD (by simp [uvs])]
    | some l =>
      have hne := hP.2.2 l rfl
      refine ⟨.x1 j0.1 j0.2.1 j0.2.2.1 j0.2.2.2.1 j0.2.2.2.2 j1.1 j1.2.1 j1.2.2 n (svL ps) (bs t) mo ne rn (uvs []) (l.map outAV), ⟨n, ?_⟩, ?_⟩
      · simp only [finTF, feedS, TF.outs, Option.getD_some, List.append_nil, outsAV, TIn.av]
        rw [show l.isEmpty = false by cases l with | nil => exact absurd rfl hne | cons a t => rfl]
      · rw [show encTF ⟨j0, j1, n, ⟨ps, t, mo, ne⟩, rn, [], some l⟩ = .s1 j0.1 j0.2.1 j0.2.2.1 j0.2.2.2.1 j0.2.2.2.2 j1.1 j1.2.1 j1.2.2 n (svL ps) (bs t) mo ne rn (uvs []) (l.map outAV) from rfl]
        simp only [Rtoken_Feed_0]
        rw [br_noD (by simp [uvs])]
  · obtain ⟨n', rn', hs⟩ := step_TF rec hP hb
    have hn := next_ok hP.1 hb
    have hout : (a.next n' rn').outs = a.outs ++ (nextT a.i a.b).2.2 := push_outs _ _
    obtain ⟨o, ⟨m, ho⟩, hr⟩ := hrec (a.next n' rn') ⟨hn.right, by
      rw [hout, List.length_append]
      have h1 := hn.len
      have h2 := hP.2.1
      show (nextT a.i a.b).2.1.length + _ ≤ _
      omega, fun l hl => by
      have hl : pushO a.o (nextT a.i a.b).2.2 = some l := hl
      cases ho : a.o with
      | none =>
        rw [ho] at hl
        cases hx : (nextT a.i a.b).2.2 with
        | nil => rw [hx] at hl; cases hl
        | cons x xs => rw [hx] at hl; cases hl; simp
      | some l0 =>
        rw [ho] at hl
        cases hl
        have := hP.2.2 l0 ho
        cases l0 with
        | nil => exact absurd rfl this
        | cons x xs => simp⟩ hn.mu
    refine ⟨o, ⟨m, ?_⟩, hs.trans hr⟩
    rw [ho, hout]
    have hf := hn.feed
    rw [hf]
    show some (AV.tup [(feedS (nextT a.i a.b).1 (nextT a.i a.b).2.1).1.av m, outsAV (a.outs ++ (nextT a.i a.b).2.2 ++ (feedS (nextT a.i a.b).1 (nextT a.i a.b).2.1).2)]) = _
    rw [List.append_assoc]
noncomputable abbrev E_tFeed := callQ X f_token_Feed encF PF fun a v => QR (feedR a.2.1 a.2.2.2) v
noncomputable abbrev E_rFeed := callQ X f_ref23_Feed encF PF fun a v => QR (feedR a.2.1 a.2.2.2) v
theorem t_tFeed (n : Bool) (i : TIn) (m : Bool) (b : List UInt8) (hp : i.ps.length ≤ 1000000) (hb : b.length ≤ 1000000) : ∃ v, QR (feedR i b) v ∧ Rtoken_Feed (tabK tbTF) (loopQ (Rtoken_Feed_0 (tabK tbTF) some) encTF PTF QTF) n (svL i.ps) (bs i.text) i.mode i.need m (uvs b) = some v := by
  unfold Rtoken_Feed feedR
  have hr : tabK tbTF f_token_Right [AV.agg [AV.lst 1 n (svL i.ps), sv (bs i.text), iv i.mode, iv i.need]] = _ := k_tRight (T := tbTF) rfl n i (by omega)
  rw [hr]
  simp only [optK_s, asBool_v]
  cases h : rightB i with
  | false => exact ⟨_, ⟨n, rfl⟩, rfl⟩
  | true =>
    obtain ⟨o, ⟨k, hk⟩, hl⟩ := l_TF (a := ⟨(n, svL i.ps, bs i.text, i.mode, i.need), (bs [], 0, 0), n, i, m, b, none⟩) ⟨rightB_iff.1 h, by simpa [TF.outs] using hb, fun l h => by cases h⟩
    rw [show encTF ⟨(n, svL i.ps, bs i.text, i.mode, i.need), (bs [], 0, 0), n, i, m, b, none⟩ = .s0 n (svL i.ps) (bs i.text) i.mode i.need (bs []) 0 0 n (svL i.ps) (bs i.text) i.mode i.need m (uvs b) from rfl] at hl
    rw [Bool.not_true, br_f, emp, hl]
    simp only [optK_s]
    simp only [TF.outs, Option.getD_none, List.nil_append] at hk
    exact ⟨_, ⟨k, rfl⟩, by rw [← hk]; cases o <;> rfl⟩
theorem k_tFeed {T : Tab} (hT : tabK T f_token_Feed = E_tFeed) (n : Bool) (i : TIn) (m : Bool) (b : List UInt8) (h : PF (n, i, m, b)) : ∃ k, tabK T f_token_Feed [i.av n, .lst 1 m (uvs b)] = some (.tup [(feedR i b).1.av k, outsAV (feedR i b).2]) := by
  rw [hT]
  obtain ⟨v, ⟨k, hv⟩, hk⟩ := callQ_eq (X := X) (g := f_token_Feed) (enc := encF) (P := PF) (Q := fun a v => QR (feedR a.2.1 a.2.2.2) v) (fun a ha => by
    obtain ⟨v, hq, hv⟩ := t_tFeed a.1 a.2.1 a.2.2.1 a.2.2.2 ha.1 ha.2.2
    exact ⟨v, hq, pctoken_Feed (tab_ok _ tbTF_ok) loopQ_ok hv⟩) (fun a b h v hv => by rw [encF_inj h]; exact hv) (a := (n, i, m, b)) h
  exact ⟨k, by rw [← hv]; exact hk⟩
theorem k_rFeed {T : Tab} (hT : tabK T f_ref23_Feed = E_rFeed) (n : Bool) (i : TIn) (m : Bool) (b : List UInt8) (h : PF (n, i, m, b)) : ∃ k, tabK T f_ref23_Feed [i.av n, .lst 1 m (uvs b)] = some (.tup [(feedR i b).1.av k, outsAV (feedR i b).2]) := by
  rw [hT]
  obtain ⟨v, ⟨k, hv⟩, hk⟩ := callQ_eq (X := X) (g := f_ref23_Feed) (enc := encF) (P := PF) (Q := fun a v => QR (feedR a.2.1 a.2.2.2) v) (fun a ha => by
    obtain ⟨v, hq, hv⟩ := t_rFeed a.1 a.2.1 a.2.2.1 a.2.2.2 ha.1 ha.2.1 ha.2.2
    refine ⟨v, hq, pcref23_Feed (lref23_Feed_0 := loopQ (Rref23_Feed_0 (tabK tbRF) some) encRF PRF QRF) (tab_ok _ tbRF_ok) loopQ_ok ?_⟩
    exact hv) (fun a b h v hv => by rw [encF_inj h]; exact hv) (a := (n, i, m, b)) h
  exact ⟨k, by rw [← hv]; exact hk⟩
end Go.Proofs.YtphbfkncimifoaaDoor
