import Derived.Test.YtmiffikcnkgcpaaDoorDateD
set_option linter.unusedVariables false
set_option linter.unusedSimpArgs false
set_option maxRecDepth 100000
namespace Go.Proofs.YtmiffikcnkgcpaaDoor
/- Parsing of dates. -/
open Go Go.Ab

/-- A date's text in its own parts. -/
def parseB (l : List UInt8) : Int × Int :=
  if l.length ≠ 26 ∨ l[11]? ≠ some 32 ∨ l[20]? ≠ some 32 then (0, 3) else
  match splitL 45 (l.take 11) with
  | [a, m, y] => if a.length ≠ 2 then (0, 3) else
      if (!(calB (trimPre [32] a) m y).2 || (!(clockB ((l.take 20).drop 12)).2 || !(zoneB (l.drop 21)).2)) = true then (0, 3) else
      let t := (calB (trimPre [32] a) m y).1 * 86400 + (clockB ((l.take 20).drop 12)).1 - (zoneB (l.drop 21)).1
      if t < 0 ∨ t > 253402300799 then (0, 15) else (t, 0)
  | _ => (0, 3)

def tbP : Tab := [(f_strings_Split, e_Split), (f_strings_TrimPrefix, e_TrimPrefix), (f_date_calendar, e_calendar), (f_date_clock, e_clock), (f_date_zone, e_zone)]
theorem tbP_ok : TabOk X tbP := tab_cons e_Split_ok (tab_cons e_TrimPrefix_ok (tab_cons e_calendar_ok (tab_cons e_clock_ok (tab_cons e_zone_ok tab_nil))))
theorem kP_split {l : List UInt8} (h : l.length ≤ 1000000000) : tabK tbP f_strings_Split [sv (bs l), sv { data := #[45] }] = some (.lst 1 false (svs (splitL 45 l))) := by
  show br (decide ((bs l).size ≤ 1000000000)) (some (AV.lst 1 false (svs (splitL 45 (bs l).data.toList)))) none = _
  rw [bs_list, bs_size, br_yesD h]
theorem kP_trim {l : List UInt8} : tabK tbP f_strings_TrimPrefix [sv (bs l), sv { data := #[32] }] = some (sv (bs (trimPre [32] l))) := by
  show some (sv (bs (trimPre [32] (bs l).data.toList))) = _
  rw [bs_list]
theorem kP_cal {a m y : List UInt8} (h : m.length = 3 → m.all asc = true) : tabK tbP f_date_calendar [sv (bs a), sv (bs m), sv (bs y)] = some (pairIB (calB a m y)) := by
  show br (!(decide ((bs m).data.toList.length = 3)) || (bs m).data.toList.all asc) (some (pairIB (calB (bs a).data.toList (bs m).data.toList (bs y).data.toList))) none = _
  rw [bs_list, bs_list, bs_list, br_pos]
  by_cases h3 : m.length = 3
  · rw [h h3, Bool.or_true]
  · rw [decide_eq_false h3]; rfl
theorem kP_clk {l : List UInt8} (h : l.length ≤ 1000000000) : tabK tbP f_date_clock [sv (bs l), bv false] = some (pairIB (clockB l)) := by
  show br (decide ((bs l).data.toList.length ≤ 1000000000)) (some (pairIB (clockB (bs l).data.toList))) none = _
  rw [bs_list, br_yesD h]
theorem kP_zone {l : List UInt8} : tabK tbP f_date_zone [sv (bs l)] = some (pairIB (zoneB l)) := by
  show some (pairIB (zoneB (bs l).data.toList)) = _
  rw [bs_list]

theorem calFrom_range (go : Bool) (mon : List UInt8) (y d : Int) : ∀ (k : Nat) (i n : Int), 0 ≤ i → calFrom go mon y d k i = some n → -1000000 ≤ n ∧ n ≤ 5000000
  | 0, i, n, _, h => by cases h
  | k + 1, i, n, h0, h => by
    unfold calFrom at h
    split at h
    · rename_i hb
      cases h
      have ht : thereI y (i + 1) d = true := by
        revert hb; cases thereI y (i + 1) d <;> simp
      have := there_day ht
      have hy := yday_range (y := y) (by omega) (by omega)
      have hm := mday_range (y := y) (m := i + 1) (by omega) (by omega)
      omega
    · exact calFrom_range go mon y d k (i + 1) n (by omega) h
theorem calB_range (a m y : List UInt8) : -1000000 ≤ (calB a m y).1 ∧ (calB a m y).1 ≤ 5000000 := by
  unfold calB
  split
  · rename_i n h
    exact calFrom_range _ _ _ _ _ _ _ (by decide) h
  · decide
theorem clockGo_range : ∀ (ps : List (List UInt8)) (n i : Int), 0 ≤ n → 0 ≤ (clockGo ps n i).1 ∧ (clockGo ps n i).1 < (n + 1) * 60 ^ ps.length
  | [], n, i, h => by simp [clockGo]; omega
  | p :: ps, n, i, h => by
    unfold clockGo
    have h60 : (0 : Int) < 60 ^ ps.length := Int.pow_pos (by decide)
    split
    · refine ⟨h, ?_⟩
      rw [List.length_cons, Int.pow_succ]
      have : (n + 1) * 1 ≤ (n + 1) * (60 ^ ps.length * 60) := Int.mul_le_mul_of_nonneg_left (by omega) (by omega)
      simp only [] at *
      omega
    · rename_i hb
      have hr := numB_range p 2 2 (by decide)
      have h59 : (numB p 2 2).1 ≤ 59 := by
        revert hb; cases (numB p 2 2).2 <;> simp <;> omega
      have ih := clockGo_range ps (n * 60 + (numB p 2 2).1) (i + 1) (by omega)
      refine ⟨ih.1, Int.lt_of_lt_of_le ih.2 ?_⟩
      rw [List.length_cons, Int.pow_succ, Int.mul_comm ((60 : Int) ^ ps.length) 60, ← Int.mul_assoc]
      exact Int.mul_le_mul_of_nonneg_right (by omega) (by omega)
theorem clockB_range (l : List UInt8) : 0 ≤ (clockB l).1 ∧ (clockB l).1 < 216000 := by
  unfold clockB
  split
  · rename_i h
    have := clockGo_range (splitL 58 l) 0 0 (by decide)
    rw [h] at this
    split
    · rename_i n e
      rw [e] at this
      exact ⟨this.1, by have := this.2; simp only [] at *; omega⟩
    · decide
  · decide
theorem zoneB_range (l : List UInt8) : -1000000 ≤ (zoneB l).1 ∧ (zoneB l).1 ≤ 1000000 := by
  unfold zoneB
  split
  · rename_i z a b c d
    have := numB_range [a, b, c, d] 4 4 (by decide)
    simp only []
    split
    · decide
    · split
      · simp only []; omega
      · split
        · simp only []; omega
        · decide
  · decide

theorem t_Parse (l : List UInt8) (ha : l.all asc = true) : Rdate_Parse (tabK tbP) (bs l) = some (pairII (parseB l)) := by
  unfold Rdate_Parse parseB
  rw [bs_size]
  by_cases h26 : l.length = 26
  · rw [br_neg (b := ((l.length : Nat) : Int) != 26) (by simp [h26]), br_yesD (by omega), br_yesD (p := 20 < ((l.length : Nat) : Int)) (by omega)]
    have e : ∀ i, i < 26 → ((bt (bs l) i != 32) = !decide (l[i]? = some 32)) := by
      intro i hi
      rw [bt_bs, List.getElem?_eq_getElem (by omega)]
      simp only [Option.getD_some, Option.some.injEq]
      by_cases h : l[i] = 32
      · rw [h]; rfl
      · rw [decide_eq_false h]
        simp only [Bool.not_false, bne_iff_ne]
        intro h'
        exact h (UInt8.toNat_inj.1 (by show l[i].toNat = 32; omega))
    rw [e 11 (by decide), e 20 (by decide)]
    by_cases h11 : l[11]? = some 32
    · by_cases h20 : l[20]? = some 32
      · rw [decide_eq_true h11, decide_eq_true h20]
        simp only [Bool.not_true, br_f, optK_s, asBool_v]
        rw [if_neg (fun h => h.elim (· h26) fun h => h.elim (· h11) (· h20)), br_yesD (by omega), cut_to, cut_both, cut_from]
        rw [show (11 : Int).toNat = 11 from rfl, show (12 : Int).toNat = 12 from rfl, show (20 : Int).toNat = 20 from rfl, show (21 : Int).toNat = 21 from rfl]
        rw [kP_split (by rw [List.length_take]; omega)]
        simp only [optK_s, asLst_v, svs_length]
        by_cases h3 : (splitL 45 (l.take 11)).length = 3
        · have hmem : ∀ p ∈ splitL 45 (l.take 11), p.all asc = true := by
            intro p hp
            rw [List.all_eq_true]
            intro b hb
            have hj := splitL_join 45 (l.take 11)
            have : b ∈ ((splitL 45 (l.take 11)).intersperse [45]).flatten := by
              rw [List.mem_flatten]
              exact ⟨p, mem_intersperse hp, hb⟩
            rw [hj] at this
            exact List.all_eq_true.1 ha _ (List.mem_of_mem_take this)
          revert h3 hmem
          generalize splitL 45 (l.take 11) = ps
          intro h3 hmem
          match ps, h3 with
          | [a, m, y], _ =>
            have hma := hmem m (by simp)
            have hk := kP_clk (l := (l.take 20).drop 12) (by rw [List.length_drop, List.length_take]; omega)
            have hz := kP_zone (l := l.drop 21)
            have hcr := calB_range (trimPre [32] a) m y
            have hkr := clockB_range ((l.take 20).drop 12)
            have hzr := zoneB_range (l.drop 21)
            rw [br_neg (b := ((([a, m, y] : List (List UInt8)).length : Nat) : Int) != 3) rfl]
            simp only [svs, List.map_cons, List.map_nil, List.length_cons, List.length_nil, List.getElem?_cons_zero, List.getElem?_cons_succ, optK_s, asStr_v, bs_size, asBool_v]
            rw [kP_trim]
            simp only [optK_s, asStr_v]
            rw [kP_cal (fun _ => hma), hk, hz]
            generalize calB (trimPre [32] a) m y = c at hcr ⊢
            generalize clockB ((l.take 20).drop 12) = k at hkr ⊢
            generalize zoneB (l.drop 21) = z at hzr ⊢
            obtain ⟨c, cok⟩ := c
            obtain ⟨k, kok⟩ := k
            obtain ⟨z, zok⟩ := z
            simp only [] at hcr hkr hzr ⊢
            simp only [optK_s, pairIB]
            rw [br_yesD (by decide)]
            simp only [optK_s, asBool_v]
            by_cases h2 : a.length = 2
            · rw [br_neg (by simp [h2]), if_neg (by simp [h2]), br_yesD (by decide), br_yesD (by decide), br_yesD (by decide)]
              rw [asTup_v _ 2 rfl]
              simp only [List.getD_cons_zero, List.getD_cons_succ, asInt_v, asBool_v]
              rw [br_yesD (by omega)]
              rw [asTup_v _ 2 rfl]
              simp only [List.getD_cons_zero, List.getD_cons_succ, asInt_v, asBool_v]
              rw [br_yesD (by omega)]
              rw [asTup_v _ 2 rfl]
              simp only [List.getD_cons_zero, List.getD_cons_succ, asInt_v, asBool_v]
              have e2 : (br (!cok) (some (bv true)) (br (!kok) (some (bv true)) (some (bv !zok)))) = some (bv (!cok || (!kok || !zok))) := by
                cases cok <;> cases kok <;> rfl
              rw [e2]
              simp only [optK_s, asBool_v]
              cases (!cok || (!kok || !zok)) with
              | true => rw [br_t, if_pos rfl]; rfl
              | false =>
                rw [br_f, if_neg (by decide)]
                rw [w64_id (n := c * 86400) (by omega) (by omega), w64_id (n := c * 86400 + k) (by omega) (by omega), w64_id (n := c * 86400 + k - z) (by omega) (by omega)]
                by_cases h0 : c * 86400 + k - z < 0
                · rw [br_yesD h0, if_pos (.inl h0)]; rfl
                · rw [br_noD h0]
                  simp only [optK_s, asBool_v]
                  by_cases hl : c * 86400 + k - z > 253402300799
                  · rw [br_yesD hl, if_pos (.inr hl)]; rfl
                  · rw [br_noD hl, if_neg (by omega)]; rfl
            · rw [br_pos (by simp; omega), if_pos h2]; rfl
        · rw [br_pos (b := (((splitL 45 (l.take 11)).length : Nat) : Int) != 3) (by simp; omega)]
          simp only [optK_s, asBool_v, br_t]
          split
          · rename_i h; rw [h] at h3; exact absurd rfl h3
          · rfl
      · rw [decide_eq_true h11, decide_eq_false h20, if_pos (.inr (.inr h20))]; rfl
    · rw [decide_eq_false h11, if_pos (.inr (.inl h11))]; rfl
  · rw [br_pos (by simp; omega), if_pos (.inl h26)]; rfl
def e_Parse : List AV → Option AV
  | [.v (.string s)] => br (s.data.toList.all asc) (some (pairII (parseB s.data.toList))) none
  | _ => none
theorem e_Parse_ok (xs : List AV) (v : AV) (h : e_Parse xs = some v) : PureCall X f_date_Parse xs v := by
  unfold e_Parse at h
  split at h
  · rename_i s
    obtain ⟨h1, h2⟩ := br_yes h
    cases h2
    obtain ⟨l, rfl⟩ := exists_bs s
    rw [bs_list] at h1 ⊢
    exact pcdate_Parse (tab_ok _ tbP_ok) (t_Parse l h1)
  · cases h
end Go.Proofs.YtmiffikcnkgcpaaDoor
