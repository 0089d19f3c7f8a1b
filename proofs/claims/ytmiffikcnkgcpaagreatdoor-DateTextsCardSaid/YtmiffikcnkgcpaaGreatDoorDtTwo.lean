/- What the program parses. -/
import Derived.Test.YtmiffikcnkgcpaaGreatDoorDtOne
import Derived.Laws.RangeAny
set_option linter.unusedVariables false
set_option linter.unusedSimpArgs false
set_option maxRecDepth 100000
namespace Go.Proofs.YtmiffikcnkgcpaaGreatDoor
open Go Go.Ab


/-- A date's text in its own parts. -/
def parseB (l : List UInt8) : Int × Int :=
  if l.length ≠ 26 ∨ l[11]? ≠ some 32 ∨ l[20]? ≠ some 32 then (0, 3) else
  match splitL 45 (l.take 11) with
  | [a, m, y] => if a.length ≠ 2 then (0, 3) else
      if (!(calB (trimPre [32] a) m y).2 || (!(clockB ((l.take 20).drop 12) false).2 || !(zoneB (l.drop 21)).2)) = true then (0, 3) else
      let t := (calB (trimPre [32] a) m y).1 * 86400 + (clockB ((l.take 20).drop 12) false).1 - (zoneB (l.drop 21)).1
      if t < 0 ∨ t > 253402300799 then (0, 15) else (t, 0)
  | _ => (0, 3)

noncomputable def tbP : Tab := [(f_strings_Split, e_Split), (f_strings_TrimPrefix, e_TrimPrefix), (f_date_calendar, E_cal), (f_date_clock, E_clock), (f_date_zone, e_zone)]
theorem tbP_ok : TabOk X tbP := tab_cons e_Split_ok (tab_cons e_TrimPrefix_ok (tab_cons callQ_ok (tab_cons callQ_ok (tab_cons e_zone_ok tab_nil))))
theorem kP_split {l : List UInt8} (h : l.length ≤ 1000000000) : tabK tbP f_strings_Split [sv (bs l), sv { data := #[45] }] = some (.lst 1 false (svs (splitL 45 l))) := by
  show br (decide ((bs l).size ≤ 1000000000)) (some (AV.lst 1 false (svs (splitL 45 (bs l).data.toList)))) none = _
  rw [bs_list, bs_size, br_yesD h]
theorem kP_trim {l : List UInt8} : tabK tbP f_strings_TrimPrefix [sv (bs l), sv { data := #[32] }] = some (sv (bs (trimPre [32] l))) := by
  show some (sv (bs (trimPre [32] (bs l).data.toList))) = _
  rw [bs_list]
theorem kP_zone {l : List UInt8} : tabK tbP f_date_zone [sv (bs l)] = some (pairIB (zoneB l)) := by
  show some (pairIB (zoneB (bs l).data.toList)) = _
  rw [bs_list]

theorem calFrom_range (go : Bool) (mon : List UInt8) (y d : Int) : ∀ (k : Nat) (i n : Int), 0 ≤ i → calFrom go mon y d k i = some n → -1000000 ≤ n ∧ n ≤ 5000000
  | 0, i, n, _, h => by cases h
  | k + 1, i, n, h0, h => by
    unfold calFrom at h
    split at h
    · rename_i hb
      cases h
      have ht : thereI y (i + 1) d = true := by
        revert hb; cases thereI y (i + 1) d <;> simp
      have := there_day ht
      have hy := yday_range (y := y) (by omega) (by omega)
      have hm := mday_range (y := y) (m := i + 1) (by omega) (by omega)
      omega
    · exact calFrom_range go mon y d k (i + 1) n (by omega) h
theorem calB_range (a m y : List UInt8) : -1000000 ≤ (calB a m y).1 ∧ (calB a m y).1 ≤ 5000000 := by
  unfold calB
  split
  · rename_i n h
    exact calFrom_range _ _ _ _ _ _ _ (by decide) h
  · decide
theorem clockB_range (l : List UInt8) (b : Bool) : 0 ≤ (clockB l b).1 ∧ (clockB l b).1 < 216000 := by
  unfold clockB
  split
  · rename_i h
    have := clockGo_range (clkP l b) 0 0 (by decide)
    rw [h] at this
    split
    · rename_i n e
      rw [e] at this
      exact ⟨this.1, by have := this.2; simp only [] at *; omega⟩
    · decide
  · decide
theorem zoneB_range (l : List UInt8) : -1000000 ≤ (zoneB l).1 ∧ (zoneB l).1 ≤ 1000000 := by
  unfold zoneB
  split
  · rename_i z a b c d
    have := numB_range [a, b, c, d] 4 4 (by decide)
    simp only []
    split
    · decide
    · split
      · simp only []; omega
      · split
        · simp only []; omega
        · decide
  · decide

theorem t_Parse (l : List UInt8) : Rdate_Parse (tabK tbP) (bs l) = some (pairII (parseB l)) := by
  unfold Rdate_Parse parseB
  rw [bs_size]
  by_cases h26 : l.length = 26
  · rw [br_neg (b := ((l.length : Nat) : Int) != 26) (by simp [h26]), br_yesD (by omega), br_yesD (p := 20 < ((l.length : Nat) : Int)) (by omega)]
    have e : ∀ i, i < 26 → ((bt (bs l) i != 32) = !decide (l[i]? = some 32)) := by
      intro i hi
      rw [bt_bs, List.getElem?_eq_getElem (by omega)]
      simp only [Option.getD_some, Option.some.injEq]
      by_cases h : l[i] = 32
      · rw [h]; rfl
      · rw [decide_eq_false h]
        simp only [Bool.not_false, bne_iff_ne]
        intro h'
        exact h (UInt8.toNat_inj.1 (by show l[i].toNat = 32; omega))
    rw [e 11 (by decide), e 20 (by decide)]
    by_cases h11 : l[11]? = some 32
    · by_cases h20 : l[20]? = some 32
      · rw [decide_eq_true h11, decide_eq_true h20]
        simp only [Bool.not_true, br_f, optK_s, asBool_v]
        rw [if_neg (fun h => h.elim (· h26) fun h => h.elim (· h11) (· h20)), br_yesD (by omega), cut_to, cut_both, cut_from]
        rw [show (11 : Int).toNat = 11 from rfl, show (12 : Int).toNat = 12 from rfl, show (20 : Int).toNat = 20 from rfl, show (21 : Int).toNat = 21 from rfl]
        rw [kP_split (by rw [List.length_take]; omega)]
        simp only [optK_s, asLst_v, svs_length]
        by_cases h3 : (splitL 45 (l.take 11)).length = 3
        · revert h3
          generalize splitL 45 (l.take 11) = ps
          intro h3
          match ps, h3 with
          | [a, m, y], _ =>
            have hk := k_clock (T := tbP) rfl ((l.take 20).drop 12) false (by rw [List.length_drop, List.length_take]; omega)
            have hz := kP_zone (l := l.drop 21)
            have hcr := calB_range (trimPre [32] a) m y
            have hkr := clockB_range ((l.take 20).drop 12) false
            have hzr := zoneB_range (l.drop 21)
            rw [br_neg (b := ((([a, m, y] : List (List UInt8)).length : Nat) : Int) != 3) rfl]
            simp only [svs, List.map_cons, List.map_nil, List.length_cons, List.length_nil, List.getElem?_cons_zero, List.getElem?_cons_succ, optK_s, asStr_v, bs_size, asBool_v]
            rw [kP_trim]
            simp only [optK_s, asStr_v]
            rw [k_cal (T := tbP) rfl, hk, hz]
            generalize calB (trimPre [32] a) m y = c at hcr ⊢
            generalize clockB ((l.take 20).drop 12) false = k at hkr ⊢
            generalize zoneB (l.drop 21) = z at hzr ⊢
            obtain ⟨c, cok⟩ := c
            obtain ⟨k, kok⟩ := k
            obtain ⟨z, zok⟩ := z
            simp only [] at hcr hkr hzr ⊢
            simp only [optK_s, pairIB]
            rw [br_yesD (by decide)]
            simp only [optK_s, asBool_v]
            by_cases h2 : a.length = 2
            · rw [br_neg (by simp [h2]), if_neg (by simp [h2]), br_yesD (by decide), br_yesD (by decide), br_yesD (by decide)]
              rw [asTup_v _ 2 rfl]
              simp only [List.getD_cons_zero, List.getD_cons_succ, asInt_v, asBool_v]
              rw [br_yesD (by omega)]
              rw [asTup_v _ 2 rfl]
              simp only [List.getD_cons_zero, List.getD_cons_succ, asInt_v, asBool_v]
              rw [br_yesD (by omega)]
              rw [asTup_v _ 2 rfl]
              simp only [List.getD_cons_zero, List.getD_cons_succ, asInt_v, asBool_v]
              have e2 : (br (!cok) (some (bv true)) (br (!kok) (some (bv true)) (some (bv !zok)))) = some (bv (!cok || (!kok || !zok))) := by
                cases cok <;> cases kok <;> rfl
              rw [e2]
              simp only [optK_s, asBool_v]
              cases (!cok || (!kok || !zok)) with
              | true => rw [br_t, if_pos rfl]; rfl
              | false =>
                rw [br_f, if_neg (by decide)]
                rw [w64_id (n := c * 86400) (by omega) (by omega), w64_id (n := c * 86400 + k) (by omega) (by omega), w64_id (n := c * 86400 + k - z) (by omega) (by omega)]
                by_cases h0 : c * 86400 + k - z < 0
                · rw [br_yesD h0, if_pos (.inl h0)]; rfl
                · rw [br_noD h0]
                  simp only [optK_s, asBool_v]
                  by_cases hl : c * 86400 + k - z > 253402300799
                  · rw [br_yesD hl, if_pos (.inr hl)]; rfl
                  · rw [br_noD hl, if_neg (by omega)]; rfl
            · rw [br_pos (by simp; omega), if_pos h2]; rfl
        · rw [br_pos (b := (((splitL 45 (l.take 11)).length : Nat) : Int) != 3) (by simp; omega)]
          simp only [optK_s, asBool_v, br_t]
          split
          · rename_i h; rw [h] at h3; exact absurd rfl h3
          · rfl
      · rw [decide_eq_true h11, decide_eq_false h20, if_pos (.inr (.inr h20))]; rfl
    · rw [decide_eq_false h11, if_pos (.inr (.inl h11))]; rfl
  · rw [br_pos (by simp; omega), if_pos (.inl h26)]; rfl

noncomputable abbrev E_Parse := callF X f_date_Parse encB1 (fun _ => True) fun l => pairII (parseB l)
theorem k_Parse {T : Tab} (hT : tabK T f_date_Parse = E_Parse) (l : List UInt8) : tabK T f_date_Parse [sv (bs l)] = some (pairII (parseB l)) := by
  rw [hT]
  exact callF_eq (enc := encB1) (P := fun _ => True) (f := fun l => pairII (parseB l)) (fun l _ => pcdate_Parse (tab_ok _ tbP_ok) (t_Parse l)) (fun x y h => by rw [encB1_inj h]) trivial
/-- A short date. -/
def shortB (l : List UInt8) : Int × Int := match splitL 45 l with
  | [a, m, y] => if (calB a m y).2 = false ∨ (calB a m y).1 < 0 then (0, 3) else ((calB a m y).1, 0)
  | _ => (0, 3)
theorem t_Short (l : List UInt8) (hl : l.length ≤ 1000000) : Rdate_Short (tabK tbP) (bs l) = some (pairII (shortB l)) := by
  unfold Rdate_Short shortB
  rw [kP_split (by omega)]
  simp only [optK_s, asLst_v, svs_length]
  generalize splitL 45 l = ps
  by_cases h3 : ps.length = 3
  · match ps, h3 with
    | [a, m, y], _ =>
      rw [br_neg (by rfl)]
      simp only [svs, List.map_cons, List.map_nil, List.length_cons, List.length_nil, List.getElem?_cons_zero, List.getElem?_cons_succ, optK_s, asStr_v]
      rw [br_yesD (by decide), br_yesD (by decide), br_yesD (by decide), k_cal (T := tbP) rfl]
      generalize calB a m y = c
      obtain ⟨c, ok⟩ := c
      simp only [optK_s, pairIB]
      rw [asTup_v _ 2 rfl]
      simp only [List.getD_cons_zero, List.getD_cons_succ, asInt_v, asBool_v]
      cases ok with
      | false => rfl
      | true =>
        simp only [Bool.not_true, br_f, optK_s, asBool_v]
        by_cases h0 : c < 0
        · rw [decide_eq_true h0, if_pos (.inr h0)]; rfl
        · rw [decide_eq_false h0, if_neg (by simp; omega)]; rfl
  · rw [br_pos (by simp; omega)]
    match ps, h3 with
    | [], _ => rfl
    | [a], _ => rfl
    | [a, b], _ => rfl
    | [a, b, c], h => exact absurd rfl h
    | a :: b :: c :: d :: e, _ => rfl
noncomputable abbrev E_Short := callF X f_date_Short encB1 (fun l => l.length ≤ 1000000) fun l => pairII (shortB l)
theorem k_Short {T : Tab} (hT : tabK T f_date_Short = E_Short) (l : List UInt8) (h : l.length ≤ 1000000) : tabK T f_date_Short [sv (bs l)] = some (pairII (shortB l)) := by
  rw [hT]
  exact callF_eq (enc := encB1) (P := fun l => l.length ≤ 1000000) (f := fun l => pairII (shortB l)) (fun l h => pcdate_Short (tab_ok _ tbP_ok) (t_Short l h)) (fun x y h => by rw [encB1_inj h]) h


def isLet (b : UInt8) : Bool := (decide (97 ≤ b.toNat) && decide (b.toNat ≤ 122)) || (decide (65 ≤ b.toNat) && decide (b.toNat ≤ 90))
def ltrL : List UInt8 := [97, 98, 99, 100, 101, 102, 103, 104, 105, 106, 107, 108, 109, 110, 111, 112, 113, 114, 115, 116, 117, 118, 119, 120, 121, 122, 65, 66, 67, 68, 69, 70, 71, 72, 73, 74, 75, 76, 77, 78, 79, 80, 81, 82, 83, 84, 85, 86, 87, 88, 89, 90]
theorem pc_set_let : PureCall X f_strings_makeASCIISet [sv (bs ltrL)] (.tup [.agg (setOf isLet), bv true]) := top_ok soundX (ev_ok soundX ovr_ok 3) 300 _ _ _ (by kernel_rfl)
theorem e_set_let_ok (xs : List AV) (v : AV) (h : e_set ltrL isLet xs = some v) : PureCall X f_strings_makeASCIISet xs v := by
  unfold e_set at h
  split at h
  · rename_i s
    obtain ⟨h1, h2⟩ := br_yes h
    cases h2
    have : s = bs ltrL := by rw [← bs_eta s, beq_iff_eq.1 h1]
    subst this
    exact pc_set_let
  · cases h
def tbTl : Tab := [(f_strings_makeASCIISet, e_set ltrL isLet)]
theorem tbTl_ok : TabOk X tbTl := tab_cons e_set_let_ok tab_nil
theorem t_Trim_let (l : List UInt8) (hl : l.length ≤ 1000000000) : Rstrings_Trim (tabK tbTl) (lOf (inv_tr isLet) (out_tr isLet)) (lOf (inv_tl isLet) (out_tl isLet)) (bs l) (bs ltrL) = some (sv (bs (trimB isLet l))) := by
  unfold Rstrings_Trim
  rw [emp, strEq_bs, strEq_bs]
  cases l with
  | nil => rfl
  | cons a t =>
    have h1 : ((a :: t : List UInt8) == []) = false := rfl
    rw [h1, show (ltrL == []) = false from rfl]
    simp only [br_f, br_t, optK_s, asBool_v, bs_size]
    rw [show ((((ltrL.length : Nat) : Int)) == 1) = false from rfl]
    simp only [br_f, optK_s, asBool_v]
    rw [show tabK tbTl f_strings_makeASCIISet [sv (bs ltrL)] = br ((bs ltrL).data.toList == ltrL) (some (.tup [.agg (setOf isLet), bv true])) none from rfl, bs_list, br_pos (by simp)]
    simp only [optK_s]
    rw [asTup_v _ 2 rfl]
    simp only [List.getD_cons_zero, List.getD_cons_succ, asBig, setOf_length, asBool_v]
    rw [br_pos rfl, br_pos (fits_set isLet)]
    refine (br_pos (by kernel_rfl)).trans ?_
    rw [lOf_pos (i_tr ⟨rfl, by rw [bs_size]; omega⟩)]
    simp only [optK_s, out_tr, Ostrings_Trim_strings_trimRightASCII_0.k, bs_list]
    rw [lOf_pos (i_tl rfl)]
    simp only [optK_s, out_tl, Ostrings_Trim_strings_trimLeftASCII_0.k, bs_list]
    rfl
abbrev encTl (l : List UInt8) : List AV := [sv (bs l), sv (bs ltrL)]
noncomputable abbrev E_TrimL := callF X f_strings_Trim encTl (fun l => l.length ≤ 1000000) fun l => sv (bs (trimB isLet l))
theorem k_TrimL {T : Tab} (hT : tabK T f_strings_Trim = E_TrimL) (l : List UInt8) (h : l.length ≤ 1000000) : tabK T f_strings_Trim [sv (bs l), sv (bs ltrL)] = some (sv (bs (trimB isLet l))) := by
  rw [hT]
  exact callF_eq (enc := encTl) (P := fun l => l.length ≤ 1000000) (f := fun l => sv (bs (trimB isLet l))) (fun l h => pcstrings_Trim (tab_ok _ tbTl_ok) (l_tr isLet _) (l_tl isLet _) (t_Trim_let l (by omega))) (fun x y h => by
    have : x = y := by simpa [encTl, bs_inj_iff] using h
    rw [this]) h

/-- Does a text end so? -/
def sufB (a b : List UInt8) : Bool := decide (b.length ≤ a.length) && (a.drop (a.length - b.length) == b)
theorem t_iHasSuffix (K : PureK) (a b : List UInt8) (h : a.length ≤ 1000000000) : Ri_stringslite_HasSuffix K (bs a) (bs b) = some (bv (sufB a b)) := by
  unfold Ri_stringslite_HasSuffix sufB
  simp only [bs_size]
  by_cases hl : b.length ≤ a.length
  · rw [br_yesD (by omega), w64_id (by omega) (by omega), br_yesD (by omega), br_yesD (by omega), cut_from, strEq_bs, decide_eq_true hl, show ((a.length : Int) - (b.length : Int)).toNat = a.length - b.length by omega]
    rfl
  · rw [br_noD (by omega), decide_eq_false hl]
    rfl
abbrev encB2 (x : List UInt8 × List UInt8) : List AV := [sv (bs x.1), sv (bs x.2)]
theorem encB2_inj {a b : List UInt8 × List UInt8} (h : encB2 a = encB2 b) : a = b := by
  obtain ⟨a1, a2⟩ := a
  obtain ⟨b1, b2⟩ := b
  simp only [encB2, List.cons.injEq, AV.v.injEq, Value.string.injEq, bs_inj_iff, and_true] at h
  rw [h.1, h.2]
noncomputable abbrev E_iSuf := callF X f_i_stringslite_HasSuffix encB2 (fun x => x.1.length ≤ 1000000) fun x => bv (sufB x.1 x.2)
theorem k_iSuf {T : Tab} (hT : tabK T f_i_stringslite_HasSuffix = E_iSuf) (a b : List UInt8) (h : a.length ≤ 1000000) : tabK T f_i_stringslite_HasSuffix [sv (bs a), sv (bs b)] = some (bv (sufB a b)) := by
  rw [hT]
  exact callF_eq (enc := encB2) (P := fun x => x.1.length ≤ 1000000) (f := fun x => bv (sufB x.1 x.2)) (fun x h => pci_stringslite_HasSuffix ok_nil (t_iHasSuffix _ x.1 x.2 (by omega))) (fun x y h => by rw [encB2_inj h]) (a := (a, b)) h
noncomputable def tbSu : Tab := [(f_i_stringslite_HasSuffix, E_iSuf)]
theorem tbSu_ok : TabOk X tbSu := tab_cons callQ_ok tab_nil
noncomputable abbrev E_Suf := callF X f_strings_HasSuffix encB2 (fun x => x.1.length ≤ 1000000) fun x => bv (sufB x.1 x.2)
theorem k_Suf {T : Tab} (hT : tabK T f_strings_HasSuffix = E_Suf) (a b : List UInt8) (h : a.length ≤ 1000000) : tabK T f_strings_HasSuffix [sv (bs a), sv (bs b)] = some (bv (sufB a b)) := by
  rw [hT]
  exact callF_eq (enc := encB2) (P := fun x => x.1.length ≤ 1000000) (f := fun x => bv (sufB x.1 x.2)) (fun x h => pcstrings_HasSuffix (tab_ok _ tbSu_ok) (by
    unfold Rstrings_HasSuffix
    rw [k_iSuf (T := tbSu) rfl _ _ h]
    rfl)) (fun x y h => by rw [encB2_inj h]) (a := (a, b)) h
def cutS (a b : List UInt8) : List UInt8 × Bool := if sufB a b then (a.take (a.length - b.length), true) else (a, false)
abbrev pairSB (x : List UInt8 × Bool) : AV := .tup [sv (bs x.1), bv x.2]
noncomputable abbrev E_iCutS := callF X f_i_stringslite_CutSuffix encB2 (fun x => x.1.length ≤ 1000000) fun x => pairSB (cutS x.1 x.2)
theorem k_iCutS {T : Tab} (hT : tabK T f_i_stringslite_CutSuffix = E_iCutS) (a b : List UInt8) (h : a.length ≤ 1000000) : tabK T f_i_stringslite_CutSuffix [sv (bs a), sv (bs b)] = some (pairSB (cutS a b)) := by
  rw [hT]
  exact callF_eq (enc := encB2) (P := fun x => x.1.length ≤ 1000000) (f := fun x => pairSB (cutS x.1 x.2)) (fun x h => pci_stringslite_CutSuffix (tab_ok _ tbSu_ok) (by
    unfold Ri_stringslite_CutSuffix cutS
    rw [k_iSuf (T := tbSu) rfl _ _ h]
    simp only [optK_s, asBool_v, bs_size]
    cases hs : sufB x.1 x.2 with
    | false => rfl
    | true =>
      have hl : x.2.length ≤ x.1.length := by
        simp only [sufB, Bool.and_eq_true, decide_eq_true_eq] at hs; exact hs.1
      rw [Bool.not_true, br_f, w64_id (by omega) (by omega), br_yesD (by omega), br_yesD (by omega), cut_to, show ((x.1.length : Int) - (x.2.length : Int)).toNat = x.1.length - x.2.length by omega]
      rfl)) (fun x y h => by rw [encB2_inj h]) (a := (a, b)) h
noncomputable def tbCs : Tab := [(f_i_stringslite_CutSuffix, E_iCutS)]
theorem tbCs_ok : TabOk X tbCs := tab_cons callQ_ok tab_nil
noncomputable abbrev E_CutS := callF X f_strings_CutSuffix encB2 (fun x => x.1.length ≤ 1000000) fun x => pairSB (cutS x.1 x.2)
theorem k_CutS {T : Tab} (hT : tabK T f_strings_CutSuffix = E_CutS) (a b : List UInt8) (h : a.length ≤ 1000000) : tabK T f_strings_CutSuffix [sv (bs a), sv (bs b)] = some (pairSB (cutS a b)) := by
  rw [hT]
  exact callF_eq (enc := encB2) (P := fun x => x.1.length ≤ 1000000) (f := fun x => pairSB (cutS x.1 x.2)) (fun x h => pcstrings_CutSuffix (tab_ok _ tbCs_ok) (by
    unfold Rstrings_CutSuffix
    rw [k_iCutS (T := tbCs) rfl _ _ h]
    simp only [optK_s, pairSB]
    rw [asTup_v _ 2 rfl]
    rfl)) (fun x y h => by rw [encB2_inj h]) (a := (a, b)) h
def tbPr : Tab := [(f_i_stringslite_HasPrefix, e_HasPrefix)]
theorem tbPr_ok : TabOk X tbPr := tab_cons e_HasPrefix_ok tab_nil
noncomputable abbrev E_Pre := callF X f_strings_HasPrefix encB2 (fun _ => True) fun x => bv (x.2.isPrefixOf x.1)
theorem k_Pre {T : Tab} (hT : tabK T f_strings_HasPrefix = E_Pre) (a b : List UInt8) : tabK T f_strings_HasPrefix [sv (bs a), sv (bs b)] = some (bv (b.isPrefixOf a)) := by
  rw [hT]
  exact callF_eq (enc := encB2) (P := fun _ => True) (f := fun x => bv (x.2.isPrefixOf x.1)) (fun x _ => pcstrings_HasPrefix (tab_ok _ tbPr_ok) (by
    unfold Rstrings_HasPrefix
    rw [show tabK tbPr f_i_stringslite_HasPrefix [sv (bs x.1), sv (bs x.2)] = some (bv ((bs x.2).data.toList.isPrefixOf (bs x.1).data.toList)) from rfl, bs_list, bs_list]
    rfl)) (fun x y h => by rw [encB2_inj h]) (a := (a, b)) trivial

/-- Is a word letters and a comma? -/
def weekB (l : List UInt8) : Bool := sufB l [44] && !(l.take (l.length - 1) == []) && (l.take (l.length - 1)).all isLet
noncomputable def tbW : Tab := [(f_strings_CutSuffix, E_CutS), (f_strings_Trim, E_TrimL)]
theorem tbW_ok : TabOk X tbW := tab_cons callQ_ok (tab_cons callQ_ok tab_nil)
theorem t_week (l : List UInt8) (h : l.length ≤ 1000000) : Rdate_week (tabK tbW) (bs l) = some (bv (weekB l)) := by
  unfold Rdate_week weekB
  rw [show ({ data := #[44] } : ByteArray) = bs [44] from rfl, k_CutS (T := tbW) rfl _ _ h]
  simp only [optK_s, pairSB]
  rw [asTup_v _ 2 rfl]
  simp only [List.getD_cons_zero, List.getD_cons_succ, asStr_v, asBool_v]
  unfold cutS
  cases sufB l [44] with
  | false => rfl
  | true =>
    simp only [if_true, br_t, List.length_cons, List.length_nil, Nat.zero_add, Bool.true_and]
    rw [emp, strEq_bs]
    cases hn : (l.take (l.length - 1) == []) with
    | true => rfl
    | false =>
      rw [Bool.not_false, br_t]
      have hk := k_TrimL (T := tbW) rfl (l.take (l.length - 1)) (by rw [List.length_take]; omega)
      rw [show ltrL = _ from rfl] at hk
      have hk' : tabK tbW f_strings_Trim [sv (bs (l.take (l.length - 1))), sv { data := #[97, 98, 99, 100, 101, 102, 103, 104, 105, 106, 107, 108, 109, 110, 111, 112, 113, 114, 115, 116, 117, 118, 119, 120, 121, 122, 65, 66, 67, 68, 69, 70, 71, 72, 73, 74, 75, 76, 77, 78, 79, 80, 81, 82, 83, 84, 85, 86, 87, 88, 89, 90] }] = some (sv (bs (trimB isLet (l.take (l.length - 1))))) := hk
      rw [hk']
      simp only [optK_s, asStr_v, asBool_v]
      rw [strEq_bs, trimB_nil]
      simp
noncomputable abbrev E_week := callF X f_date_week encB1 (fun l => l.length ≤ 1000000) fun l => bv (weekB l)
theorem k_week {T : Tab} (hT : tabK T f_date_week = E_week) (l : List UInt8) (h : l.length ≤ 1000000) : tabK T f_date_week [sv (bs l)] = some (bv (weekB l)) := by
  rw [hT]
  exact callF_eq (enc := encB1) (P := fun l => l.length ≤ 1000000) (f := fun l => bv (weekB l)) (fun l h => pcdate_week (tab_ok _ tbW_ok) (t_week l h)) (fun x y h => by rw [encB1_inj h]) h


def blankB (c : UInt8) : Bool := c == 32 || c == 9
def fieldsGo : List UInt8 → List UInt8 → List (List UInt8)
  | [], w => if w = [] then [] else [w]
  | c :: l, w => if blankB c then (if w = [] then fieldsGo l [] else w :: fieldsGo l []) else fieldsGo l (w ++ [c])
theorem fieldsGo_skip : ∀ (x l w : List UInt8), (∀ c ∈ x, blankB c = false) → fieldsGo (x ++ l) w = fieldsGo l (w ++ x)
  | [], l, w, _ => by simp
  | c :: x, l, w, h => by
    simp only [List.cons_append, fieldsGo, h c List.mem_cons_self]
    rw [if_neg (by decide), fieldsGo_skip x l (w ++ [c]) fun d hd => h d (List.mem_cons_of_mem _ hd)]
    simp
theorem high_not {c : UInt8} (h : 128 ≤ c.toNat) : blankB c = false := by
  unfold blankB
  simp only [Bool.or_eq_false_iff, beq_eq_false_iff_ne]
  constructor <;> (rintro rfl; revert h; decide)
/-- A rune of more bytes than one is of high bytes. -/
theorem decode_many (s : ByteArray) (i : Nat) : ∀ j, 1 ≤ j → j < (Utf8.decode s i).2 → i + j < s.size ∧ (s.get! (i + j)).toNat / 64 = 2 := by
  intro j h1 h2
  have hc : ∀ k, (decide (i + k < s.size) && (s.get! (i + k)).toNat / 64 == 2) = true → i + k < s.size ∧ (s.get! (i + k)).toNat / 64 = 2 := by
    intro k h
    simpa using h
  unfold Utf8.decode at h2
  simp only [] at h2
  split at h2
  · simp at h2; omega
  · split at h2
    · rename_i hb
      simp only [Bool.and_eq_true] at hb
      split at h2
      · simp only [] at h2
        obtain rfl : j = 1 := by omega
        exact hc 1 (by simpa using hb.2)
      · simp at h2; omega
    · split at h2
      · rename_i hb
        simp only [Bool.and_eq_true] at hb
        split at h2
        · simp only [] at h2
          have : j = 1 ∨ j = 2 := by omega
          rcases this with rfl | rfl
          · exact hc 1 (by simpa using hb.1.2)
          · exact hc 2 (by simpa using hb.2)
        · simp at h2; omega
      · split at h2
        · rename_i hb
          simp only [Bool.and_eq_true] at hb
          split at h2
          · simp only [] at h2
            have : j = 1 ∨ j = 2 ∨ j = 3 := by omega
            rcases this with rfl | rfl | rfl
            · exact hc 1 (by simpa using hb.1.1.2)
            · exact hc 2 (by simpa using hb.1.2)
            · exact hc 3 (by simpa using hb.2)
          · simp at h2; omega
        · simp at h2; omega
theorem get_bs (l : List UInt8) (i : Nat) (h : i < l.length) : (bs l).get! i = l[i] := by
  show (bs l).data[i]! = _
  simp [bs, h]
/-- What a rune's bytes are, where the first one is high. -/
theorem rune_high (l : List UInt8) (i : Nat) (h : i < l.length) (hc : 128 ≤ l[i].toNat) : 128 ≤ (Utf8.decode (bs l) i).1 ∧ 1 ≤ (Utf8.decode (bs l) i).2 ∧ i + (Utf8.decode (bs l) i).2 ≤ l.length ∧ ∀ c ∈ (l.drop i).take (Utf8.decode (bs l) i).2, blankB c = false := by
  obtain ⟨h1, h2⟩ := decode_high (bs l) i (by rw [bs_size]; exact h) hc
  have hm := decode_many (bs l) i
  rw [bs_size] at hm
  have hle : i + (Utf8.decode (bs l) i).2 ≤ l.length := by
    by_cases hn : 2 ≤ (Utf8.decode (bs l) i).2
    · have := (hm ((Utf8.decode (bs l) i).2 - 1) (by omega) (by omega)).1
      omega
    · omega
  refine ⟨h1, h2, hle, ?_⟩
  intro c hcm
  obtain ⟨j, hj, rfl⟩ := List.getElem_of_mem hcm
  simp only [List.length_take, List.length_drop] at hj
  simp only [List.getElem_take, List.getElem_drop]
  by_cases j0 : j = 0
  · subst j0; exact high_not hc
  · have hj2 := hm j (by omega) (by omega)
    rw [get_bs l (i + j) hj2.1] at hj2
    exact high_not (by omega)
theorem t_Mail1 (K : PureK) (r : Int) : Rdate_Mail_1 K r = some (bv (r == 32 || r == 9)) := by
  unfold Rdate_Mail_1
  cases r == 32 <;> rfl
abbrev encR (r : Int) : List AV := [rv r]
noncomputable abbrev E_M1 := callF X f_date_Mail_1 encR (fun _ => True) fun r => bv (r == 32 || r == 9)
theorem k_M1 {T : Tab} (hT : tabK T f_date_Mail_1 = E_M1) (r : Int) : tabK T f_date_Mail_1 [rv r] = some (bv (r == 32 || r == 9)) := by
  rw [hT]
  exact callF_eq (enc := encR) (P := fun _ => True) (f := fun r => bv (r == 32 || r == 9)) (fun r _ => pcdate_Mail_1 ok_nil (t_Mail1 _ r)) (fun x y h => by
    have : x = y := by simpa [encR] using h
    rw [this]) trivial
noncomputable def tbFf : Tab := [(f_date_Mail_1, E_M1)]
theorem tbFf_ok : TabOk X tbFf := tab_cons callQ_ok tab_nil

/-- The spans found so far, and the word that has begun. -/
structure FF where
  start : Int
  spans : List (Nat × Nat)
  q : Nat
def spanAV (p : Nat × Nat) : AV := .agg [iv (p.1 : Int), iv (p.2 : Int)]
def cutP (l : List UInt8) (p : Nat × Nat) : List UInt8 := (l.take p.2).drop p.1
def curW (l : List UInt8) (a : FF) : List UInt8 := if a.start < 0 then [] else cutP l (a.start.toNat, a.q)
abbrev encFF (l : List UInt8) (a : FF) : Sstrings_FieldsFunc_0 := .s0 (bs l) a.start (a.spans.map spanAV) (bs l) a.q
abbrev PFF (l : List UInt8) (a : FF) : Prop := a.q ≤ l.length ∧ l.length ≤ 1000000 ∧ a.spans.length ≤ a.q ∧ (∀ p ∈ a.spans, p.1 ≤ p.2 ∧ p.2 ≤ l.length) ∧ a.start < a.q ∧ -1000001 ≤ a.start ∧ a.spans.map (cutP l) ++ fieldsGo (l.drop a.q) (curW l a) = fieldsGo l []
abbrev QFF (l : List UInt8) (_ : FF) (o : Ostrings_FieldsFunc_0) : Prop := ∃ b : FF, PFF l b ∧ b.q = l.length ∧ o = .x0 (bs l) b.start (b.spans.map spanAV) (bs l) b.q
theorem xor_neg {n : Nat} (h : n ≤ 1000000) : w64 ((((BitVec.ofInt 64 (-1) ^^^ BitVec.ofInt 64 (n : Int)).toNat : Nat) : Int)) = -((n : Int) + 1) := by
  have e : BitVec.ofInt 64 (-1) ^^^ BitVec.ofInt 64 (n : Int) = ~~~ BitVec.ofNat 64 n := by
    rw [show BitVec.ofInt 64 (-1) = BitVec.allOnes 64 by decide, BitVec.allOnes_xor]
    simp
  rw [e, BitVec.toNat_not, BitVec.toNat_ofNat, Nat.mod_eq_of_lt (by omega)]
  unfold w64 IntKind.wrap
  simp [IntKind.bits, IntKind.signed]
  omega

theorem cutP_add (l : List UInt8) {a q n : Nat} (h : a ≤ q) : cutP l (a, q) ++ (l.drop q).take n = cutP l (a, q + n) := by
  unfold cutP
  simp only []
  rw [List.take_add, List.drop_append]
  by_cases hq : q ≤ l.length
  · rw [show a - (l.take q).length = 0 by rw [List.length_take]; omega, List.drop_zero]
  · rw [List.drop_eq_nil_of_le (show l.length ≤ q by omega)]; simp
theorem cutP_self (l : List UInt8) (q : Nat) : cutP l (q, q) = [] := by
  unfold cutP
  rw [List.drop_eq_nil_of_le (by simp; omega)]
theorem cutP_ne (l : List UInt8) {a q : Nat} (h : a < q) (hq : q ≤ l.length) : cutP l (a, q) ≠ [] := by
  unfold cutP
  intro hn
  have := congrArg List.length hn
  simp at this
  omega
/-- Bytes of a word go on with it. -/
theorem word_on (l : List UInt8) (st : Int) (sp : List (Nat × Nat)) (q n : Nat) (hq : q + n ≤ l.length) (h1 : 1 ≤ n) (hs : st < q) (hx : ∀ c ∈ (l.drop q).take n, blankB c = false) :
    fieldsGo (l.drop q) (curW l ⟨st, sp, q⟩) = fieldsGo (l.drop (q + n)) (curW l ⟨if st < 0 then (q : Int) else st, sp, q + n⟩) := by
  have e : l.drop q = (l.drop q).take n ++ l.drop (q + n) := by
    rw [← List.drop_drop, List.take_append_drop]
  rw [e, fieldsGo_skip _ _ _ hx]
  congr 1
  unfold curW
  simp only []
  by_cases h0 : st < 0
  · rw [if_pos h0, if_pos h0, if_neg (by omega), Int.toNat_natCast]
    rw [← cutP_add l (Nat.le_refl q), cutP_self]
  · rw [if_neg h0, if_neg h0, if_neg h0]
    exact cutP_add l (by omega)
set_option maxHeartbeats 1000000 in
theorem l_FF (l : List UInt8) {a : FF} (h : PFF l a) : ∃ o, QFF l a o ∧ loopQ (Rstrings_FieldsFunc_0 (tabK tbFf) some) (encFF l) (PFF l) (QFF l) (encFF l a) = some o := by
  refine loopQ_eq (fun a => l.length - a.q) ?_ (fun a b _ o hq => hq) h
  rintro ⟨st, sp, q⟩ rec ⟨h1, h2, h3, h4, h5, h6, h7⟩ hrec
  simp only [] at h1 h2 h3 h4 h5 h6 h7
  simp only [encFF, Rstrings_FieldsFunc_0, bs_size]
  by_cases hq : q < l.length
  · rw [br_pos (by rw [Nat.blt_eq]; exact hq), k_M1 (T := tbFf) rfl]
    simp only [optK_s, asBool_v]
    have hgo : ∀ n : Nat, 1 ≤ n → q + n ≤ l.length → (∀ c ∈ (l.drop q).take n, blankB c = false) → ∃ o, QFF l ⟨st, sp, q⟩ o ∧ rec (.s0 (bs l) (if st < 0 then (q : Int) else st) (sp.map spanAV) (bs l) (q + n)) = some o := by
      intro n n1 n2 n3
      refine hrec ⟨if st < 0 then (q : Int) else st, sp, q + n⟩ ⟨n2, h2, by simp only []; omega, h4, by simp only []; split <;> omega, by simp only []; split <;> omega, ?_⟩ (by simp only []; omega)
      simp only []
      rw [← word_on l st sp q n n2 n1 h5 n3]
      exact h7
    have hword : ∀ n : Nat, 1 ≤ n → q + n ≤ l.length → (∀ c ∈ (l.drop q).take n, blankB c = false) → ∃ o, QFF l ⟨st, sp, q⟩ o ∧ br (decide (st < 0)) (rec (.s0 (bs l) (q : Int) (sp.map spanAV) (bs l) (q + n))) (rec (.s0 (bs l) st (sp.map spanAV) (bs l) (q + n))) = some o := by
      intro n n1 n2 n3
      have := hgo n n1 n2 n3
      by_cases h0 : st < 0
      · rw [br_yesD h0]; rw [if_pos h0] at this; exact this
      · rw [br_noD h0]; rw [if_neg h0] at this; exact this
    by_cases hc : 128 ≤ l[q].toNat
    · obtain ⟨r1, r2, r3, r4⟩ := rune_high l q hq hc
      rw [br_neg (by simp; omega)]
      exact hword _ r2 r3 r4
    · have hdec : Utf8.decode (bs l) q = (l[q].toNat, 1) := decode_ascii (bs l) q (by rw [bs_size]; exact hq) (by show l[q].toNat < 128; omega)
      rw [hdec]
      simp only []
      have hb : ((l[q].toNat : Int) == 32 || (l[q].toNat : Int) == 9) = blankB l[q] := by
        unfold blankB
        rw [Bool.eq_iff_iff]
        simp only [Bool.or_eq_true, beq_iff_eq]
        constructor
        · rintro (h | h)
          · exact .inl (UInt8.toNat_inj.1 (by show l[q].toNat = 32; omega))
          · exact .inr (UInt8.toNat_inj.1 (by show l[q].toNat = 9; omega))
        · rintro (h | h) <;> rw [h]
          · exact .inl rfl
          · exact .inr rfl
      rw [hb]
      have hd := List.drop_eq_getElem_cons hq
      cases hbl : blankB l[q] with
      | false =>
        rw [br_f]
        exact hword 1 (by omega) (by omega) (by
          intro c hcm
          rw [hd, List.take_succ_cons, List.take_zero, List.mem_singleton] at hcm
          rw [hcm]; exact hbl)
      | true =>
        rw [br_t]
        by_cases h0 : st ≥ 0
        · rw [br_yesD h0, br_pos (lenOks_of (by omega) (by simp; omega))]
          obtain ⟨n, rfl⟩ : ∃ n : Nat, st = n := ⟨st.toNat, by omega⟩
          rw [xor_neg (by omega)]
          have := hrec ⟨-((n : Int) + 1), sp ++ [(n, q)], q + 1⟩ ⟨hq, h2, by simp; omega, fun p hp => by
              rcases List.mem_append.1 hp with hp | hp
              · exact h4 p hp
              · simp at hp; subst hp; exact ⟨by simp only []; omega, by simp only []; omega⟩, by simp only []; omega, by simp only []; omega, by
            simp only [List.map_append, List.map_cons, List.map_nil]
            rw [← h7, hd]
            simp only [fieldsGo, hbl, if_true, curW]
            rw [if_pos (show -((n : Int) + 1) < 0 by omega), if_neg (show ¬ (n : Int) < 0 by omega), Int.toNat_natCast, if_neg (cutP_ne l (by omega) (by omega))]
            simp⟩ (by simp only []; omega)
          simp only [encFF, List.map_append, List.map_cons, List.map_nil] at this
          exact this
        · rw [br_noD h0]
          have := hrec ⟨st, sp, q + 1⟩ ⟨hq, h2, by simp only []; omega, h4, by simp only []; omega, h6, by
            simp only []
            rw [← h7, hd]
            simp only [fieldsGo, hbl, if_true, curW]
            simp only [if_pos (show st < 0 by omega), if_true]⟩ (by simp only []; omega)
          exact this
  · rw [br_neg (by rw [Bool.eq_false_iff]; intro h; rw [Nat.blt_eq] at h; exact hq h)]
    exact ⟨_, ⟨⟨st, sp, q⟩, ⟨h1, h2, h3, h4, h5, h6, h7⟩, by simp only []; omega, rfl⟩, rfl⟩

abbrev encFG (l : List UInt8) (st0 : ByteArray) (q : Nat) (sp : List (Nat × Nat)) (i : Nat) : Sstrings_FieldsFunc_1 := .s0 (bs l) (sp.length : Int) (i : Int) (sp.map spanAV) st0 q ((sp.take i).map (fun p => sv (bs (cutP l p))) ++ List.replicate (sp.length - i) (sv (bs [])))
def outFG (l : List UInt8) (st0 : ByteArray) (q : Nat) (sp : List (Nat × Nat)) (_ : Nat) : Ostrings_FieldsFunc_1 := .x0 (sp.map spanAV) st0 q (svs (sp.map (cutP l)))
theorem l_FG (K : PureK) (l : List UInt8) (st0 : ByteArray) (q : Nat) (sp : List (Nat × Nat)) (hl : l.length ≤ 1000000) (hn : sp.length ≤ 1000001) (hs : ∀ p ∈ sp, p.1 ≤ p.2 ∧ p.2 ≤ l.length) {i : Nat} (h : i ≤ sp.length) :
    loopF (Rstrings_FieldsFunc_1 K some) (encFG l st0 q sp) (fun i => i ≤ sp.length) (outFG l st0 q sp) (encFG l st0 q sp i) = some (outFG l st0 q sp i) := by
  refine loopF_eq (fun i => sp.length - i) ?_ (fun a b h => rfl) h
  intro i rec hi hrec
  simp only [encFG, Rstrings_FieldsFunc_1, bs_size]
  have hlen : ((sp.take i).map (fun p => sv (bs (cutP l p))) ++ List.replicate (sp.length - i) (sv (bs []))).length = sp.length := by simp; omega
  by_cases h : i < sp.length
  · have hp := hs sp[i] (List.getElem_mem h)
    rw [br_yesD (by omega), br_yesD (by omega), br_yesD (by rw [List.length_map]; omega), Nat.zero_add, Int.toNat_natCast, List.getElem?_map, List.getElem?_eq_getElem h]
    simp only [Option.map_some, optK_s, spanAV]
    rw [asAgg_v _ 2 rfl]
    simp only [List.getD_cons_zero, List.getD_cons_succ, asInt_v]
    rw [br_yesD (by omega), br_yesD (by omega), br_yesD (by omega), br_yesD (by omega), br_yesD (by rw [hlen]; omega), cut_both, Int.toNat_natCast, Int.toNat_natCast, w64_id (n := (i : Int) + 1) (by omega) (by omega)]
    have := hrec (i + 1) (by omega) (by omega)
    simp only [encFG] at this
    rw [show ((i : Int) + 1) = ((i + 1 : Nat) : Int) by omega]
    have e : ((sp.take i).map (fun p => sv (bs (cutP l p))) ++ List.replicate (sp.length - i) (sv (bs []))).set i (sv (bs (List.drop sp[i].1 (List.take sp[i].2 l)))) = (sp.take (i + 1)).map (fun p => sv (bs (cutP l p))) ++ List.replicate (sp.length - (i + 1)) (sv (bs [])) := by
      rw [List.set_append_right _ _ (by simp; omega)]
      rw [show i - ((sp.take i).map (fun p => sv (bs (cutP l p)))).length = 0 by simp; omega]
      rw [show sp.length - i = (sp.length - (i + 1)) + 1 by omega, List.replicate_succ, List.set_cons_zero, List.take_succ_eq_append_getElem h, List.map_append, List.append_assoc]
      rfl
    rw [e]
    exact this
  · rw [br_noD (by omega)]
    rw [show sp.length - i = 0 by omega, List.take_of_length_le (by omega)]
    simp [outFG, svs, Function.comp_def]

abbrev encFGb (l : List UInt8) (st0 : ByteArray) (q : Nat) (sp : List (Nat × Nat)) (i : Nat) : Sstrings_FieldsFunc_1b := .s0 (bs l) (sp.length : Int) (i : Int) (sp.map spanAV) st0 q ((sp.take i).map (fun p => sv (bs (cutP l p))) ++ List.replicate (sp.length - i) (sv (bs [])))
def outFGb (l : List UInt8) (st0 : ByteArray) (q : Nat) (sp : List (Nat × Nat)) (_ : Nat) : Ostrings_FieldsFunc_1b := .x0 (sp.map spanAV) st0 q (svs (sp.map (cutP l)))
theorem l_FGb (K : PureK) (l : List UInt8) (st0 : ByteArray) (q : Nat) (sp : List (Nat × Nat)) (hl : l.length ≤ 1000000) (hn : sp.length ≤ 1000001) (hs : ∀ p ∈ sp, p.1 ≤ p.2 ∧ p.2 ≤ l.length) {i : Nat} (h : i ≤ sp.length) :
    loopF (Rstrings_FieldsFunc_1b K some) (encFGb l st0 q sp) (fun i => i ≤ sp.length) (outFGb l st0 q sp) (encFGb l st0 q sp i) = some (outFGb l st0 q sp i) := by
  refine loopF_eq (fun i => sp.length - i) ?_ (fun a b h => rfl) h
  intro i rec hi hrec
  simp only [encFGb, Rstrings_FieldsFunc_1b, bs_size]
  have hlen : ((sp.take i).map (fun p => sv (bs (cutP l p))) ++ List.replicate (sp.length - i) (sv (bs []))).length = sp.length := by simp; omega
  by_cases h : i < sp.length
  · have hp := hs sp[i] (List.getElem_mem h)
    rw [br_yesD (by omega), br_yesD (by omega), br_yesD (by rw [List.length_map]; omega), Nat.zero_add, Int.toNat_natCast, List.getElem?_map, List.getElem?_eq_getElem h]
    simp only [Option.map_some, optK_s, spanAV]
    rw [asAgg_v _ 2 rfl]
    simp only [List.getD_cons_zero, List.getD_cons_succ, asInt_v]
    rw [br_yesD (by omega), br_yesD (by omega), br_yesD (by omega), br_yesD (by omega), br_yesD (by rw [hlen]; omega), cut_both, Int.toNat_natCast, Int.toNat_natCast, w64_id (n := (i : Int) + 1) (by omega) (by omega)]
    have := hrec (i + 1) (by omega) (by omega)
    simp only [encFGb] at this
    rw [show ((i : Int) + 1) = ((i + 1 : Nat) : Int) by omega]
    have e : ((sp.take i).map (fun p => sv (bs (cutP l p))) ++ List.replicate (sp.length - i) (sv (bs []))).set i (sv (bs (List.drop sp[i].1 (List.take sp[i].2 l)))) = (sp.take (i + 1)).map (fun p => sv (bs (cutP l p))) ++ List.replicate (sp.length - (i + 1)) (sv (bs [])) := by
      rw [List.set_append_right _ _ (by simp; omega)]
      rw [show i - ((sp.take i).map (fun p => sv (bs (cutP l p)))).length = 0 by simp; omega]
      rw [show sp.length - i = (sp.length - (i + 1)) + 1 by omega, List.replicate_succ, List.set_cons_zero, List.take_succ_eq_append_getElem h, List.map_append, List.append_assoc]
      rfl
    rw [e]
    exact this
  · rw [br_noD (by omega)]
    rw [show sp.length - i = 0 by omega, List.take_of_length_le (by omega)]
    simp [outFGb, svs, Function.comp_def]

def fieldsL (l : List UInt8) : List (List UInt8) := fieldsGo l []
theorem t_Fields (l : List UInt8) (hl : l.length ≤ 1000000) : PureCall X f_strings_FieldsFunc [sv (bs l), AV.fn (Fn.func 30) [] []] (.lst 1 false (svs (fieldsL l))) := by
  obtain ⟨o, ⟨⟨st, sp, q⟩, ⟨h1, h2, h3, h4, h5, h6, h7⟩, h8, rfl⟩, ho⟩ := l_FF l (a := ⟨-1, [], 0⟩) ⟨Nat.zero_le _, hl, by simp, fun p hp => (by cases hp), by decide, by decide, rfl⟩
  simp only [] at h1 h2 h3 h4 h5 h6 h7 h8
  subst h8
  have ho' : loopQ (Rstrings_FieldsFunc_0 (tabK tbFf) some) (encFF l) (PFF l) (QFF l) (.s0 (bs l) (-1) [] (bs l) 0) = some (.x0 (bs l) st (sp.map spanAV) (bs l) l.length) := ho
  rw [List.drop_eq_nil_of_le (Nat.le_refl _)] at h7
  simp only [fieldsGo, curW] at h7
  by_cases h0 : st ≥ 0
  · obtain ⟨n, rfl⟩ : ∃ n : Nat, st = n := ⟨st.toNat, by omega⟩
    rw [if_neg (show ¬ (n : Int) < 0 by omega), Int.toNat_natCast, if_neg (cutP_ne l (by omega) (Nat.le_refl _))] at h7
    have hs' : ∀ p ∈ sp ++ [(n, l.length)], p.1 ≤ p.2 ∧ p.2 ≤ l.length := fun p hp => by
      rcases List.mem_append.1 hp with hp | hp
      · exact h4 p hp
      · simp at hp; subst hp; exact ⟨by simp only []; omega, by simp only []; omega⟩
    have hL := l_FG (tabK tbFf) l (bs l) l.length (sp ++ [(n, l.length)]) hl (by simp; omega) hs' (i := 0) (Nat.zero_le _)
    refine pcstrings_FieldsFunc (tab_ok _ tbFf_ok) (lstrings_FieldsFunc_0 := loopQ (Rstrings_FieldsFunc_0 (tabK tbFf) some) (encFF l) (PFF l) (QFF l)) loopQ_ok (lstrings_FieldsFunc_1 := loopF (Rstrings_FieldsFunc_1 (tabK tbFf) some) (encFG l (bs l) l.length (sp ++ [(n, l.length)])) (fun i => i ≤ (sp ++ [(n, l.length)]).length) (outFG l (bs l) l.length (sp ++ [(n, l.length)]))) loopF_ok (lstrings_FieldsFunc_1b := fun _ => none) (fun s o h => by cases h) ?_
    unfold Rstrings_FieldsFunc
    rw [ho']
    simp only [optK_s, Ostrings_FieldsFunc_0.k, bs_size]
    have hmap : sp.map spanAV ++ [AV.agg [iv (n : Int), iv ((l.length : Nat) : Int)]] = (sp ++ [(n, l.length)]).map spanAV := by simp [spanAV]
    rw [br_yesD h0, hmap, br_pos (lenOks_of (by omega) (by simp; omega)), br_yesD (by omega), br_pos (lenOks_of (by omega) (by simp; omega))]
    simp only [List.length_map, Int.toNat_natCast]
    have hL' : loopF (Rstrings_FieldsFunc_1 (tabK tbFf) some) (encFG l (bs l) l.length (sp ++ [(n, l.length)])) (fun i => i ≤ (sp ++ [(n, l.length)]).length) (outFG l (bs l) l.length (sp ++ [(n, l.length)])) (.s0 (bs l) ((sp ++ [(n, l.length)]).length : Int) 0 ((sp ++ [(n, l.length)]).map spanAV) (bs l) l.length (List.replicate (sp ++ [(n, l.length)]).length (sv { data := #[] }))) = some (.x0 ((sp ++ [(n, l.length)]).map spanAV) (bs l) l.length (svs ((sp ++ [(n, l.length)]).map (cutP l)))) := hL
    rw [hL']
    simp only [optK_s, Ostrings_FieldsFunc_1.k]
    rw [fieldsL, ← h7]
    simp
  · rw [if_pos (show st < 0 by omega), if_pos rfl, List.append_nil] at h7
    have hL := l_FGb (tabK tbFf) l (bs l) l.length sp hl (by omega) h4 (i := 0) (Nat.zero_le _)
    refine pcstrings_FieldsFunc (tab_ok _ tbFf_ok) (lstrings_FieldsFunc_0 := loopQ (Rstrings_FieldsFunc_0 (tabK tbFf) some) (encFF l) (PFF l) (QFF l)) loopQ_ok (lstrings_FieldsFunc_1 := fun _ => none) (fun s o h => by cases h) (lstrings_FieldsFunc_1b := loopF (Rstrings_FieldsFunc_1b (tabK tbFf) some) (encFGb l (bs l) l.length sp) (fun i => i ≤ sp.length) (outFGb l (bs l) l.length sp)) loopF_ok ?_
    unfold Rstrings_FieldsFunc
    rw [ho']
    simp only [optK_s, Ostrings_FieldsFunc_0.k, bs_size]
    rw [br_noD h0, br_yesD (by omega)]
    simp only [List.length_map, Int.toNat_natCast]
    rw [br_pos (lenOks_of (by omega) (by omega))]
    have hL' : loopF (Rstrings_FieldsFunc_1b (tabK tbFf) some) (encFGb l (bs l) l.length sp) (fun i => i ≤ sp.length) (outFGb l (bs l) l.length sp) (.s0 (bs l) (sp.length : Int) 0 (sp.map spanAV) (bs l) l.length (List.replicate sp.length (sv { data := #[] }))) = some (.x0 (sp.map spanAV) (bs l) l.length (svs (sp.map (cutP l)))) := hL
    rw [hL']
    simp only [optK_s, Ostrings_FieldsFunc_1b.k]
    rw [fieldsL, ← h7]
abbrev encFi (l : List UInt8) : List AV := [sv (bs l), AV.fn (Fn.func 30) [] []]
noncomputable abbrev E_Fi := callF X f_strings_FieldsFunc encFi (fun l => l.length ≤ 1000000) fun l => .lst 1 false (svs (fieldsL l))
theorem k_Fi {T : Tab} (hT : tabK T f_strings_FieldsFunc = E_Fi) (l : List UInt8) (h : l.length ≤ 1000000) : tabK T f_strings_FieldsFunc [sv (bs l), AV.fn (Fn.func 30) [] []] = some (.lst 1 false (svs (fieldsL l))) := by
  rw [hT]
  exact callF_eq (enc := encFi) (P := fun l => l.length ≤ 1000000) (f := fun l => .lst 1 false (svs (fieldsL l))) (fun l h => t_Fields l h) (fun x y h => by
    have : x = y := by simpa [encFi, bs_inj_iff] using h
    rw [this]) h
theorem fieldsGo_len : ∀ (l w : List UInt8), ∀ p ∈ fieldsGo l w, p.length ≤ l.length + w.length
  | [], w, p, hp => by
    unfold fieldsGo at hp
    split at hp
    · cases hp
    · simp at hp; subst hp; simp
  | c :: l, w, p, hp => by
    unfold fieldsGo at hp
    split at hp
    · split at hp
      · have := fieldsGo_len l [] p hp; simp at this ⊢; omega
      · rcases List.mem_cons.1 hp with rfl | hp
        · simp <;> omega
        · have := fieldsGo_len l [] p hp; simp at this ⊢; omega
    · have := fieldsGo_len l (w ++ [c]) p hp; simp at this ⊢; omega

/-- A mail date's words. -/
def tailB (ws : List (List UInt8)) : Int × Int := match ws with
  | [a, m, y, k, z] => if (!(calB a m y).2 || (!(clockB k true).2 || !(zoneB z).2)) = true then (0, 3) else if (calB a m y).1 < 0 then (0, 15) else ((calB a m y).1, 0)
  | _ => (0, 3)
def zoneW (ws : List (List UInt8)) : List (List UInt8) := match ws with
  | [a, m, y, k, z, n] => if decide (2 ≤ n.length) && ([40].isPrefixOf n && sufB n [41]) then [a, m, y, k, z] else ws
  | _ => ws
def weekW (ws : List (List UInt8)) : List (List UInt8) := match ws with
  | [] => []
  | w :: r => if weekB w then r else ws
def mailB (l : List UInt8) : Int × Int := if l.length > 200 then (0, 3) else tailB (zoneW (weekW (fieldsL l)))
noncomputable def tbM : Tab := [(f_strings_FieldsFunc, E_Fi), (f_date_week, E_week), (f_strings_HasPrefix, E_Pre), (f_strings_HasSuffix, E_Suf), (f_date_calendar, E_cal), (f_date_clock, E_clock), (f_date_zone, e_zone)]
theorem tbM_ok : TabOk X tbM := tab_cons callQ_ok (tab_cons callQ_ok (tab_cons callQ_ok (tab_cons callQ_ok (tab_cons callQ_ok (tab_cons callQ_ok (tab_cons e_zone_ok tab_nil))))))
theorem kM_zone (l : List UInt8) : tabK tbM f_date_zone [sv (bs l)] = some (pairIB (zoneB l)) := by
  show some (pairIB (zoneB (bs l).data.toList)) = _
  rw [bs_list]

def zoneAsk (ws : List (List UInt8)) : Bool := match ws with
  | [_, _, _, _, _, n] => decide (2 ≤ n.length) && ([40].isPrefixOf n && sufB n [41])
  | _ => false
theorem ask_zone (ws : List (List UInt8)) (h : ∀ p ∈ ws, p.length ≤ 1000000) (L : List AV) (hL : L = svs ws) :
    (br (((L.length : Nat) : Int) == 6)
      (br (decide (5 < ((L.length : Nat) : Int)))
        (optK (L[5]?) fun wv10 =>
        Ab.asStr wv10 fun ws11 =>
        br (decide (((ws11.size : Nat) : Int) ≥ 2))
          (br (decide (5 < ((L.length : Nat) : Int)))
            (optK (L[5]?) fun wv12 =>
            Ab.asStr wv12 fun ws13 =>
            optK (tabK tbM f_strings_HasPrefix [sv ws13, sv ({ data := #[40] } : ByteArray)]) fun wv14 =>
            Ab.asBool wv14 fun wb15 =>
            br wb15
              (br (decide (5 < ((L.length : Nat) : Int)))
                (optK (L[5]?) fun wv16 =>
                Ab.asStr wv16 fun ws17 =>
                optK (tabK tbM f_strings_HasSuffix [sv ws17, sv ({ data := #[41] } : ByteArray)]) fun wv18 =>
                Ab.asBool wv18 fun wb19 =>
                some (bv wb19))
                (none))
              (some (bv false)))
            (none))
          (some (bv false)))
        (none))
      (some (bv false))) = some (bv (zoneAsk ws)) := by
  subst hL
  rw [svs_length]
  match ws, h with
  | [a, b, c, d, e, n], h =>
    have hn := h n (by simp)
    show _ = some (bv (decide (2 ≤ n.length) && ([40].isPrefixOf n && sufB n [41])))
    have h5 : decide (5 < ((([a, b, c, d, e, n] : List (List UInt8)).length : Nat) : Int)) = true := rfl
    rw [br_pos (by rfl)]
    simp only [h5, br_t, svs, List.map_cons, List.map_nil, List.getElem?_cons_succ, List.getElem?_cons_zero, optK_s, asStr_v, bs_size]
    rw [show ({ data := #[40] } : ByteArray) = bs [40] from rfl, show ({ data := #[41] } : ByteArray) = bs [41] from rfl, k_Pre (T := tbM) rfl, k_Suf (T := tbM) rfl _ _ hn]
    simp only [optK_s, asBool_v]
    by_cases h2 : 2 ≤ n.length
    · rw [br_yesD (by omega), decide_eq_true h2]
      cases [40].isPrefixOf n <;> rfl
    · rw [br_noD (by omega), decide_eq_false h2]
      rfl
  | [], _ => rfl
  | [_], _ => rfl
  | [_, _], _ => rfl
  | [_, _, _], _ => rfl
  | [_, _, _, _], _ => rfl
  | [_, _, _, _, _], _ => rfl
  | _ :: _ :: _ :: _ :: _ :: _ :: _ :: r, _ =>
    rw [br_neg (by simp; omega)]
    rfl
theorem zoneW_ask (ws : List (List UInt8)) : zoneW ws = if zoneAsk ws then ws.take 5 else ws := by
  match ws with
  | [a, b, c, d, e, n] => rfl
  | [] => rfl
  | [_] => rfl
  | [_, _] => rfl
  | [_, _, _] => rfl
  | [_, _, _, _] => rfl
  | [_, _, _, _, _] => rfl
  | _ :: _ :: _ :: _ :: _ :: _ :: _ :: r => rfl
theorem zoneAsk_len {ws : List (List UInt8)} (h : zoneAsk ws = true) : ws.length = 6 := by
  unfold zoneAsk at h
  split at h
  · rfl
  · cases h
theorem mail_tail (ws : List (List UInt8)) (h : ∀ p ∈ ws, p.length ≤ 1000000) (L : List AV) (hL : L = svs ws) :
    (br (((L.length : Nat) : Int) != 5)
      (some (AV.tup [iv 0, iv 3]))
      (br (decide (0 < ((L.length : Nat) : Int)))
        (optK L[0]? fun wv105 =>
        Ab.asStr wv105 fun ws106 =>
        br (decide (1 < ((L.length : Nat) : Int)))
          (optK L[1]? fun wv107 =>
          Ab.asStr wv107 fun ws108 =>
          br (decide (2 < ((L.length : Nat) : Int)))
            (optK L[2]? fun wv109 =>
            Ab.asStr wv109 fun ws110 =>
            optK (tabK tbM f_date_calendar [sv ws106, sv ws108, sv ws110]) fun wv111 =>
            Ab.asTup wv111 2 fun wg112 =>
            Ab.asInt (wg112 0) .i64 fun wn113 =>
            Ab.asBool (wg112 1) fun wb114 =>
            br (decide (3 < ((L.length : Nat) : Int)))
              (optK L[3]? fun wv115 =>
              Ab.asStr wv115 fun ws116 =>
              optK (tabK tbM f_date_clock [sv ws116, bv true]) fun wv117 =>
              Ab.asTup wv117 2 fun wg118 =>
              Ab.asInt (wg118 0) .i64 fun wn119 =>
              Ab.asBool (wg118 1) fun wb120 =>
              br (decide (4 < ((L.length : Nat) : Int)))
                (optK L[4]? fun wv121 =>
                Ab.asStr wv121 fun ws122 =>
                optK (tabK tbM f_date_zone [sv ws122]) fun wv123 =>
                Ab.asTup wv123 2 fun wg124 =>
                Ab.asInt (wg124 0) .i64 fun wn125 =>
                Ab.asBool (wg124 1) fun wb126 =>
                optK (br (!wb114)
                    (some (bv true))
                    (br (!wb120)
                      (some (bv true))
                      (some (bv !wb126)))) fun wv127 =>
                Ab.asBool wv127 fun wb128 =>
                br wb128
                  (some (AV.tup [iv 0, iv 3]))
                  (br (decide (wn113 < 0))
                    (some (AV.tup [iv 0, iv 15]))
                    (some (AV.tup [iv wn113, iv 0]))))
                (none))
              (none))
            (none))
          (none))
        (none))) = some (pairII (tailB ws)) := by
  subst hL
  rw [svs_length]
  match ws, h with
  | [a, m, y, k, z], h =>
    have hk := h k (by simp)
    have q0 : decide (0 < ((([a, m, y, k, z] : List (List UInt8)).length : Nat) : Int)) = true := rfl
    have q1 : decide (1 < ((([a, m, y, k, z] : List (List UInt8)).length : Nat) : Int)) = true := rfl
    have q2 : decide (2 < ((([a, m, y, k, z] : List (List UInt8)).length : Nat) : Int)) = true := rfl
    have q3 : decide (3 < ((([a, m, y, k, z] : List (List UInt8)).length : Nat) : Int)) = true := rfl
    have q4 : decide (4 < ((([a, m, y, k, z] : List (List UInt8)).length : Nat) : Int)) = true := rfl
    rw [br_neg (by rfl)]
    simp only [q0, q1, q2, q3, q4, br_t, svs, List.map_cons, List.map_nil, List.getElem?_cons_succ, List.getElem?_cons_zero, optK_s, asStr_v]
    rw [k_cal (T := tbM) rfl, k_clock (T := tbM) rfl _ _ hk, kM_zone]
    unfold tailB
    simp only []
    generalize calB a m y = c
    generalize clockB k true = k
    generalize zoneB z = z
    obtain ⟨c, cok⟩ := c
    obtain ⟨k, kok⟩ := k
    obtain ⟨z, zok⟩ := z
    simp only [optK_s, pairIB]
    rw [asTup_v _ 2 rfl]
    simp only [List.getD_cons_zero, List.getD_cons_succ, asInt_v, asBool_v]
    rw [asTup_v _ 2 rfl]
    simp only [List.getD_cons_zero, List.getD_cons_succ, asInt_v, asBool_v]
    rw [asTup_v _ 2 rfl]
    simp only [List.getD_cons_zero, List.getD_cons_succ, asInt_v, asBool_v]
    have e2 : (br (!cok) (some (bv true)) (br (!kok) (some (bv true)) (some (bv !zok)))) = some (bv (!cok || (!kok || !zok))) := by
      cases cok <;> cases kok <;> rfl
    rw [e2]
    simp only [optK_s, asBool_v]
    cases (!cok || (!kok || !zok)) with
    | true => rfl
    | false =>
      rw [br_f, if_neg (by decide)]
      by_cases h0 : c < 0
      · rw [br_yesD h0, if_pos h0]; rfl
      · rw [br_noD h0, if_neg h0]; rfl
  | [], _ => rfl
  | [_], _ => rfl
  | [_, _], _ => rfl
  | [_, _, _], _ => rfl
  | [_, _, _, _], _ => rfl
  | _ :: _ :: _ :: _ :: _ :: _ :: r, _ =>
    rw [br_pos (by simp; omega)]
    rfl
def headW (ws : List (List UInt8)) : Bool := match ws with
  | [] => false
  | w :: _ => weekB w
set_option maxHeartbeats 1000000 in
theorem t_Mail (l : List UInt8) : Rdate_Mail (tabK tbM) (bs l) = some (pairII (mailB l)) := by
  unfold Rdate_Mail mailB
  rw [bs_size]
  by_cases h2 : l.length > 200
  · rw [br_yesD (by omega), if_pos h2]; rfl
  · rw [br_noD (by omega), if_neg h2, k_Fi (T := tbM) rfl l (by omega)]
    simp only [optK_s, asLst_v]
    have hws : ∀ p ∈ fieldsL l, p.length ≤ 1000000 := fun p hp => by
      have := fieldsGo_len l [] p hp
      simp at this; omega
    generalize fieldsL l = ws at hws
    have hweek : (br (decide ((((svs ws).length : Nat) : Int) > 0)) (br (decide (0 < (((svs ws).length : Nat) : Int))) (optK (svs ws)[0]? fun wv4 => Ab.asStr wv4 fun ws5 => optK (tabK tbM f_date_week [sv ws5]) fun wv6 => Ab.asBool wv6 fun wb7 => some (bv wb7)) none) (some (bv false))) = some (bv (headW ws)) := by
      cases ws with
      | nil => rfl
      | cons w r =>
        rw [svs_length, br_yesD (by simp), br_yesD (by simp)]
        simp only [svs, List.map_cons, List.getElem?_cons_zero, optK_s, asStr_v]
        rw [k_week (T := tbM) rfl w (hws w (by simp))]
        rfl
    rw [hweek]
    simp only [optK_s, asBool_v]
    have hfin : ∀ vs : List (List UInt8), (∀ p ∈ vs, p.length ≤ 1000000) → ∀ L : List AV, L = svs vs → True := fun _ _ _ _ => trivial
    cases hw : headW ws with
    | true =>
      obtain ⟨w, r, rfl⟩ : ∃ w r, ws = w :: r := by cases ws with | nil => cases hw | cons w r => exact ⟨w, r, rfl⟩
      have hW : weekW (w :: r) = r := by
        have hw' : weekB w = true := hw
        simp only [weekW]; rw [if_pos hw']
      have hr : ∀ p ∈ r, p.length ≤ 1000000 := fun p hp => hws p (List.mem_cons_of_mem _ hp)
      have hD : List.drop 1 (svs (w :: r)) = svs r := rfl
      rw [br_t, hW, hD, br_yesD (by rw [svs_length]; simp; omega), ask_zone r hr _ rfl]
      simp only [optK_s, asBool_v]
      rw [zoneW_ask]
      cases hz : zoneAsk r with
      | true =>
        have h6 := zoneAsk_len hz
        rw [br_t, br_yesD (by rw [svs_length]; omega), if_pos rfl]
        exact mail_tail (r.take 5) (fun p hp => hr p (List.mem_of_mem_take hp)) _ (by simp [svs])
      | false =>
        rw [br_f, if_neg (by decide)]
        exact mail_tail r hr _ rfl
    | false =>
      have hW : weekW ws = ws := by
        cases ws with
        | nil => rfl
        | cons w r =>
          have hw' : weekB w = false := hw
          simp only [weekW]; rw [hw']; rfl
      rw [br_f, hW, ask_zone ws hws _ rfl]
      simp only [optK_s, asBool_v]
      rw [zoneW_ask]
      cases hz : zoneAsk ws with
      | true =>
        have h6 := zoneAsk_len hz
        rw [br_t, br_yesD (by rw [svs_length]; omega), if_pos rfl]
        exact mail_tail (ws.take 5) (fun p hp => hws p (List.mem_of_mem_take hp)) _ (by simp [svs])
      | false =>
        rw [br_f, if_neg (by decide)]
        exact mail_tail ws hws _ rfl
noncomputable abbrev E_Mail := callF X f_date_Mail encB1 (fun _ => True) fun l => pairII (mailB l)
theorem k_Mail {T : Tab} (hT : tabK T f_date_Mail = E_Mail) (l : List UInt8) : tabK T f_date_Mail [sv (bs l)] = some (pairII (mailB l)) := by
  rw [hT]
  exact callF_eq (enc := encB1) (P := fun _ => True) (f := fun l => pairII (mailB l)) (fun l _ => pcdate_Mail (tab_ok _ tbM_ok) (t_Mail l)) (fun x y h => by rw [encB1_inj h]) trivial
end Go.Proofs.YtmiffikcnkgcpaaGreatDoor
