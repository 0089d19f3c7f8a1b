import Derived.Test.YtmiffikcnkgcpaaDoorDateC
import Derived.Test.YtmiffikcnkgcpaaDoorStrA
set_option linter.unusedVariables false
set_option linter.unusedSimpArgs false
set_option maxRecDepth 100000
namespace Go.Proofs.YtmiffikcnkgcpaaDoor
/- The calendar, the clock and the parsing of dates. -/
open Go Go.Ab

def nameL : List (List UInt8) := [[74, 97, 110], [70, 101, 98], [77, 97, 114], [65, 112, 114], [77, 97, 121], [74, 117, 110], [74, 117, 108], [65, 117, 103], [83, 101, 112], [79, 99, 116], [78, 111, 118], [68, 101, 99]]
def nameAt (i : Int) : List UInt8 := nameL.getD i.toNat []
/-- The first month, from i on, that this name is of, with such a day. -/
def calFrom (go : Bool) (mon : List UInt8) (y d : Int) : Nat → Int → Option Int
  | 0, _ => none
  | k + 1, i => match go && decide (mon.length = 3) && eqFold (nameAt i) mon && thereI y (i + 1) d with
    | true => some (yday y + mday y (i + 1) + d - 1)
    | false => calFrom go mon y d k (i + 1)
def tbC : Tab := (f_date_number, e_number) :: (f_strings_EqualFold, e_EqualFold) :: (f_date_there, e42) :: (f_date_count, e39) :: []
theorem tbC_ok : TabOk X tbC := tab_cons e_number_ok (tab_cons e_EqualFold_ok (tab_cons e42_ok (tab_cons e39_ok tab_nil)))
theorem kC_num {l : List UInt8} {lo hi : Int} (h : 1 ≤ lo ∧ hi ≤ 18) : tabK tbC f_date_number [sv (bs l), iv lo, iv hi] = some (pairIB (numB l lo hi)) := by
  show br (decide (1 ≤ lo ∧ hi ≤ 18)) (some (pairIB (numB (bs l).data.toList lo hi))) none = _
  rw [bs_list, br_yesD h]
theorem kC_fold {a b : List UInt8} (ha : a.all asc = true) (hb : b.all asc = true) (h : a.length ≤ 1000000000) (hab : a.length = b.length) : tabK tbC f_strings_EqualFold [sv (bs a), sv (bs b)] = some (bv (eqFold a b)) := by
  show br ((bs a).data.toList.all asc && (bs b).data.toList.all asc && decide ((bs a).data.toList.length ≤ 1000000000) && decide ((bs a).data.toList.length = (bs b).data.toList.length)) (some (bv (eqFold (bs a).data.toList (bs b).data.toList))) none = _
  rw [bs_list, bs_list, br_pos (by simp only [ha, hb, Bool.true_and, Bool.and_eq_true, decide_eq_true_eq]; exact ⟨h, hab⟩)]
theorem kC_there {y m d : Int} : tabK tbC f_date_there [iv y, iv m, iv d] = some (bv (thereI y m d)) := rfl
theorem kC_count {y m d : Int} (h : 0 ≤ y ∧ y ≤ 9999 ∧ 1 ≤ m ∧ m ≤ 12 ∧ -1000000 ≤ d ∧ d ≤ 1000000) : tabK tbC f_date_count [iv y, iv m, iv d] = some (iv (yday y + mday y m + d - 1)) := br_pos (decide_eq_true h)

theorem nameAt_ok {i : Int} (h0 : 0 ≤ i) (h : i < 12) : (nameAt i).all asc = true ∧ (nameAt i).length = 3 := by
  have : i = 0 ∨ i = 1 ∨ i = 2 ∨ i = 3 ∨ i = 4 ∨ i = 5 ∨ i = 6 ∨ i = 7 ∨ i = 8 ∨ i = 9 ∨ i = 10 ∨ i = 11 := by omega
  rcases this with rfl | rfl | rfl | rfl | rfl | rfl | rfl | rfl | rfl | rfl | rfl | rfl <;> decide
def namesV : List AV := nameL.map fun l => sv (bs l)
theorem namesV_get {i : Int} (h0 : 0 ≤ i) (h : i < 12) : namesV[i.toNat * 1]? = some (sv (bs (nameAt i))) := by
  have : i = 0 ∨ i = 1 ∨ i = 2 ∨ i = 3 ∨ i = 4 ∨ i = 5 ∨ i = 6 ∨ i = 7 ∨ i = 8 ∨ i = 9 ∨ i = 10 ∨ i = 11 := by omega
  rcases this with rfl | rfl | rfl | rfl | rfl | rfl | rfl | rfl | rfl | rfl | rfl | rfl <;> rfl

noncomputable def inv_cal : Sdate_calendar_0 → Bool
  | .s0 mon d ok y is n0 n1 n2 n3 n4 n5 n6 n7 n8 n9 n10 n11 i => propB ([sv n0, sv n1, sv n2, sv n3, sv n4, sv n5, sv n6, sv n7, sv n8, sv n9, sv n10, sv n11] = namesV ∧ (mon.data.toList.length = 3 → mon.data.toList.all asc = true) ∧ 0 ≤ i ∧ i ≤ 12)
theorem i_cal {mon : ByteArray} {d : Int} {ok : Bool} {y : Int} {is : Bool} {n0 n1 n2 n3 n4 n5 n6 n7 n8 n9 n10 n11 : ByteArray} {i : Int}
    (h : [sv n0, sv n1, sv n2, sv n3, sv n4, sv n5, sv n6, sv n7, sv n8, sv n9, sv n10, sv n11] = namesV ∧ (mon.data.toList.length = 3 → mon.data.toList.all asc = true) ∧ 0 ≤ i ∧ i ≤ 12) :
    inv_cal (.s0 mon d ok y is n0 n1 n2 n3 n4 n5 n6 n7 n8 n9 n10 n11 i) = true := propB_of h
def out_cal : Sdate_calendar_0 → Odate_calendar_0
  | .s0 mon d ok y is n0 n1 n2 n3 n4 n5 n6 n7 n8 n9 n10 n11 i => match calFrom (ok && is) mon.data.toList y d (12 - i).toNat i with
    | some n => .x0 n true
    | none => .x1
theorem l_cal : ∀ s o, lOf inv_cal out_cal s = some o → ∃ k, fuelRec (Rdate_calendar_0 (tabK tbC) some) k s = some o :=
  fuel_of inv_cal out_cal (fun | .s0 _ _ _ _ _ _ _ _ _ _ _ _ _ _ _ _ _ i => (12 - i).toNat) (by
    rintro ⟨mon, d, ok, y, is, n0, n1, n2, n3, n4, n5, n6, n7, n8, n9, n10, n11, i⟩ rec hi hrec
    obtain ⟨hn, hm, h0, h12⟩ := of_propB hi
    obtain ⟨m, rfl⟩ := exists_bs mon
    rw [bs_list] at hm
    simp only [Rdate_calendar_0]
    by_cases h : i < 12
    · rw [br_yesD h, br_yesD h0, br_yesD h, hn, namesV_get h0 h]
      simp only [optK_s, asStr_v, bs_size]
      have hna := nameAt_ok h0 h
      obtain ⟨k, hk⟩ : ∃ k, (12 - i).toNat = k + 1 := ⟨(12 - i).toNat - 1, by omega⟩
      have hk' : (12 - (i + 1)).toNat = k := by omega
      rw [w64_id (n := i + 1) (by omega) (by omega), hrec _ (i_cal ⟨hn, by rw [bs_list]; exact hm, by omega, by omega⟩) (by show (12 - (i + 1)).toNat < (12 - i).toNat; omega)]
      have e : (br ok (br is (br (((m.length : Nat) : Int) == (((nameAt i).length : Nat) : Int)) (optK (tabK tbC f_strings_EqualFold [sv (bs (nameAt i)), sv (bs m)]) fun wv4 => Ab.asBool wv4 fun wb5 => br wb5 (optK (tabK tbC f_date_there [iv y, iv (i + 1), iv d]) fun wv6 => Ab.asBool wv6 fun wb7 => some (bv wb7)) (some (bv false))) (some (bv false))) (some (bv false))) (some (bv false)))
          = some (bv (ok && is && decide (m.length = 3) && eqFold (nameAt i) m && thereI y (i + 1) d)) := by
        cases ok with
        | false => rfl
        | true =>
          cases is with
          | false => rfl
          | true =>
            rw [br_t, br_t, hna.2]
            by_cases h3 : m.length = 3
            · rw [br_pos (by simp [h3]), kC_fold hna.1 (hm h3) (by omega) (by omega), kC_there]
              simp only [optK_s, asBool_v, h3, decide_true, Bool.true_and]
              cases eqFold (nameAt i) m <;> rfl
            · rw [br_neg (by simp; omega), decide_eq_false h3]; rfl
      rw [e]
      simp only [optK_s, asBool_v, out_cal, bs_list, hk, hk', calFrom]
      cases hb : (ok && is && decide (m.length = 3) && eqFold (nameAt i) m && thereI y (i + 1) d) with
      | false => rfl
      | true =>
        have ht : thereI y (i + 1) d = true := by
          revert hb; cases thereI y (i + 1) d <;> simp
        have := there_day ht
        rw [br_t, kC_count (by omega)]
        rfl
    · rw [br_noD h]
      obtain rfl : i = 12 := by omega
      rfl)

def calB (dom mon year : List UInt8) : Int × Bool :=
  match calFrom ((numB dom 1 2).2 && (numB year 4 4).2) mon (numB year 4 4).1 (numB dom 1 2).1 12 0 with
  | some n => (n, true)
  | none => (0, false)
theorem t_calendar (dom mon year : List UInt8) (hm : mon.length = 3 → mon.all asc = true) : Rdate_calendar (tabK tbC) (lOf inv_cal out_cal) (bs dom) (bs mon) (bs year) = some (pairIB (calB dom mon year)) := by
  unfold Rdate_calendar calB
  rw [kC_num (by decide), kC_num (by decide)]
  generalize numB dom 1 2 = p
  generalize numB year 4 4 = q
  simp only [optK_s, pairIB]
  rw [asTup_v _ 2 rfl]
  simp only [List.getD_cons_zero, List.getD_cons_succ, asInt_v, asBool_v]
  rw [asTup_v _ 2 rfl]
  simp only [List.getD_cons_zero, List.getD_cons_succ, asInt_v, asBool_v]
  rw [lOf_pos (i_cal ⟨by rfl, by rw [bs_list]; exact hm, by decide, by decide⟩)]
  simp only [optK_s, out_cal, bs_list]
  rw [show (12 - (0 : Int)).toNat = 12 from rfl]
  cases calFrom (p.2 && q.2) mon q.1 p.1 12 0 <;> rfl
def e_calendar : List AV → Option AV
  | [.v (.string a), .v (.string b), .v (.string c)] => br (!(decide (b.data.toList.length = 3)) || b.data.toList.all asc) (some (pairIB (calB a.data.toList b.data.toList c.data.toList))) none
  | _ => none
theorem e_calendar_ok (xs : List AV) (v : AV) (h : e_calendar xs = some v) : PureCall X f_date_calendar xs v := by
  unfold e_calendar at h
  split at h
  · rename_i a b c
    obtain ⟨h1, h2⟩ := br_yes h
    cases h2
    obtain ⟨a, rfl⟩ := exists_bs a
    obtain ⟨b, rfl⟩ := exists_bs b
    obtain ⟨c, rfl⟩ := exists_bs c
    rw [bs_list] at h1
    rw [bs_list, bs_list, bs_list]
    refine pcdate_calendar (tab_ok _ tbC_ok) l_cal (t_calendar a b c fun h3 => ?_)
    simp only [h3, decide_true, Bool.not_true, Bool.false_or] at h1
    exact h1
  · cases h

/-- The seconds of a clock's parts. -/
def clockGo : List (List UInt8) → Int → Int → Int × Bool
  | [], n, _ => (n, true)
  | p :: ps, n, i => match !(numB p 2 2).2 || (decide ((numB p 2 2).1 > 59) || (i == 0 && decide ((numB p 2 2).1 > 23))) with
    | true => (n, false)
    | false => clockGo ps (n * 60 + (numB p 2 2).1) (i + 1)
def partsOf : List AV → List (List UInt8)
  | [] => []
  | .v (.string s) :: l => s.data.toList :: partsOf l
  | _ :: l => partsOf l
theorem partsOf_svs : ∀ l, partsOf (svs l) = l
  | [] => rfl
  | p :: l => by
    show (bs p).data.toList :: partsOf (svs l) = _
    rw [partsOf_svs l, bs_list]
noncomputable def inv_clk : Sdate_clock_0 → Bool
  | .s0 n b rows len i => propB (∃ ps : List (List UInt8), rows = svs ps ∧ len = ps.length ∧ ps.length = 3 ∧ 0 ≤ i ∧ i ≤ len ∧ 0 ≤ n ∧ n < (60 : Int) ^ i.toNat)
theorem i_clk {n : Int} {b : Bool} {rows : List AV} {len i : Int} (h : ∃ ps : List (List UInt8), rows = svs ps ∧ len = ps.length ∧ ps.length = 3 ∧ 0 ≤ i ∧ i ≤ len ∧ 0 ≤ n ∧ n < (60 : Int) ^ i.toNat) : inv_clk (.s0 n b rows len i) = true := propB_of h
def out_clk : Sdate_clock_0 → Odate_clock_0
  | .s0 n b rows len i => match clockGo ((partsOf rows).drop i.toNat) n i with
    | (m, true) => .x1 m
    | (m, false) => .x0 0 false m
def tbK : Tab := [(f_date_number, e_number), (f_strings_Split, e_Split)]
theorem tbK_ok : TabOk X tbK := tab_cons e_number_ok (tab_cons e_Split_ok tab_nil)
theorem kK_num {l : List UInt8} {lo hi : Int} (h : 1 ≤ lo ∧ hi ≤ 18) : tabK tbK f_date_number [sv (bs l), iv lo, iv hi] = some (pairIB (numB l lo hi)) := by
  show br (decide (1 ≤ lo ∧ hi ≤ 18)) (some (pairIB (numB (bs l).data.toList lo hi))) none = _
  rw [bs_list, br_yesD h]
theorem kK_split {l : List UInt8} (h : l.length ≤ 1000000000) : tabK tbK f_strings_Split [sv (bs l), sv { data := #[58] }] = some (.lst 1 false (svs (splitL 58 l))) := by
  show br (decide ((bs l).size ≤ 1000000000)) (some (AV.lst 1 false (svs (splitL 58 (bs l).data.toList)))) none = _
  rw [bs_list, bs_size, br_yesD h]
theorem svs_length (ps : List (List UInt8)) : (svs ps).length = ps.length := by simp [svs]
theorem svs_get (ps : List (List UInt8)) (i : Nat) (h : i < ps.length) : (svs ps)[i]? = some (sv (bs ps[i])) := by simp [svs, h]
theorem l_clk : ∀ s o, lOf inv_clk out_clk s = some o → ∃ k, fuelRec (Rdate_clock_0 (tabK tbK) some) k s = some o :=
  fuel_of inv_clk out_clk (fun | .s0 _ _ _ len i => (len - i).toNat) (by
    rintro ⟨n, b, rows, len, i⟩ rec hi hrec
    obtain ⟨ps, rfl, rfl, h3, h0, hl, hn0, hn⟩ := of_propB hi
    simp only [Rdate_clock_0]
    by_cases h : i < (ps.length : Int)
    · have hlt : i.toNat < ps.length := by omega
      rw [br_yesD h, br_yesD h0, br_yesD (by rw [svs_length]; exact h), svs_get _ _ hlt]
      simp only [optK_s, asStr_v]
      rw [kK_num (by decide)]
      have hr := numB_range ps[i.toNat] 2 2 (by decide)
      have hcl : clockGo (List.drop i.toNat ps) n i = match !(numB ps[i.toNat] 2 2).2 || (decide ((numB ps[i.toNat] 2 2).1 > 59) || (i == 0 && decide ((numB ps[i.toNat] 2 2).1 > 23))) with
          | true => (n, false)
          | false => clockGo (List.drop (i.toNat + 1) ps) (n * 60 + (numB ps[i.toNat] 2 2).1) (i + 1) := by
        rw [List.drop_eq_getElem_cons hlt]; rfl
      simp only [out_clk, partsOf_svs, hcl]
      generalize numB ps[i.toNat] 2 2 = p at hr ⊢
      obtain ⟨x, ok⟩ := p
      simp only [optK_s, pairIB]
      rw [asTup_v _ 2 rfl]
      simp only [List.getD_cons_zero, List.getD_cons_succ, asInt_v, asBool_v]
      have e : (br (!ok) (some (bv true)) (br (decide (x > 59)) (some (bv true)) (br (i == 0) (some (bv (decide (x > 23)))) (some (bv false)))))
          = some (bv (!ok || (decide (x > 59) || (i == 0 && decide (x > 23))))) := by
        cases ok <;> cases decide (x > 59) <;> cases (i == 0) <;> rfl
      rw [e]
      simp only [optK_s, asBool_v]
      cases hb : (!ok || (decide (x > 59) || (i == 0 && decide (x > 23)))) with
      | true => rfl
      | false =>
        have h59 : x ≤ 59 := by
          revert hb; cases ok <;> simp <;> omega
        have hi3 : i = 0 ∨ i = 1 ∨ i = 2 := by omega
        have hn' : n ≤ 360000000 ∧ n * 60 + x < (60 : Int) ^ (i + 1).toNat := by
          simp only [] at hr
          rcases hi3 with rfl | rfl | rfl <;> simp at hn ⊢ <;> omega
        simp only [] at hr
        rw [br_f, w64_id (n := n * 60) (by omega) (by omega), w64_id (n := n * 60 + x) (by omega) (by omega), w64_id (n := i + 1) (by omega) (by omega)]
        rw [hrec _ (i_clk ⟨ps, rfl, rfl, h3, by omega, by omega, by omega, hn'.2⟩) (by show ((ps.length : Int) - (i + 1)).toNat < ((ps.length : Int) - i).toNat; omega)]
        simp only [out_clk, partsOf_svs]
        rw [show (i + 1).toNat = i.toNat + 1 by omega]
    · rw [br_noD h]
      simp only [out_clk, partsOf_svs]
      rw [List.drop_of_length_le (by omega)]
      rfl)
def clockB (l : List UInt8) : Int × Bool :=
  if (splitL 58 l).length = 3 then (match clockGo (splitL 58 l) 0 0 with | (n, true) => (n, true) | (_, false) => (0, false)) else (0, false)
theorem t_clock (l : List UInt8) (h : l.length ≤ 1000000000) : Rdate_clock_f (tabK tbK) (lOf inv_clk out_clk) (bs l) = some (pairIB (clockB l)) := by
  unfold Rdate_clock_f clockB
  rw [kK_split h]
  simp only [optK_s, asLst_v, svs_length]
  by_cases h3 : (splitL 58 l).length = 3
  · rw [br_neg (by simp [h3]), if_pos h3, lOf_pos (i_clk ⟨splitL 58 l, rfl, rfl, h3, by decide, by omega, by decide, by decide⟩)]
    simp only [optK_s, out_clk, partsOf_svs]
    rw [show (0 : Int).toNat = 0 from rfl, List.drop_zero]
    generalize clockGo (splitL 58 l) 0 0 = p
    obtain ⟨n, ok⟩ := p
    cases ok <;> rfl
  · rw [br_pos (by simp; omega), if_neg h3]; rfl
def e_clock : List AV → Option AV
  | [.v (.string s), .v (.bool false)] => br (decide (s.data.toList.length ≤ 1000000000)) (some (pairIB (clockB s.data.toList))) none
  | _ => none
theorem e_clock_ok (xs : List AV) (v : AV) (h : e_clock xs = some v) : PureCall X f_date_clock xs v := by
  unfold e_clock at h
  split at h
  · rename_i s
    obtain ⟨h1, h2⟩ := br_yes h
    cases h2
    obtain ⟨l, rfl⟩ := exists_bs s
    rw [bs_list] at h1 ⊢
    exact pcdate_clock_f (tab_ok _ tbK_ok) l_clk (t_clock l (of_decide_eq_true h1))
  · cases h
end Go.Proofs.YtmiffikcnkgcpaaDoor
