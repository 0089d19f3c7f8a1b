/- What the reference parses. -/
import Derived.Test.YtmiffikcnkgcpaaGreatDoorDtThree
set_option linter.unusedVariables false
set_option linter.unusedSimpArgs false
set_option maxRecDepth 100000
namespace Go.Proofs.YtmiffikcnkgcpaaGreatDoor
open Go Go.Ab


noncomputable def tbV : Tab := [(f_ref07_ymd, E_ymd), (f_ref07_clock, E_clockR), (f_ref07_zone, E_zoneR), (f_ref07_split, E_split)]
theorem tbV_ok : TabOk X tbV := tab_cons callQ_ok (tab_cons callQ_ok (tab_cons callQ_ok (tab_cons callQ_ok tab_nil)))
theorem clockB_val (l : List UInt8) (b : Bool) (h : (clockB l b).2 = true) : clockR l b = (clockB l b).1 := by unfold clockR; rw [if_pos h]
theorem clockR_neg (l : List UInt8) (b : Bool) (h : (clockB l b).2 = false) : clockR l b = -1 := by unfold clockR; rw [if_neg (by rw [h]; decide)]
/-- The end of a date's parsing. -/
theorem parse_end (d k z : Int × Bool) (kr : Int) (h1 : k.2 = true → kr = k.1) (h2 : k.2 = false → kr = -1) (hd : -1000000 ≤ d.1 ∧ d.1 ≤ 5000000) (hk : 0 ≤ k.1 ∧ k.1 < 216000) (hz : -1000000 ≤ z.1 ∧ z.1 ≤ 1000000) :
    (optK (br (!d.2)
        (some (bv true))
        (br (decide (kr < 0))
          (some (bv true))
          (some (bv !z.2)))) fun wv31 =>
    Ab.asBool wv31 fun wb32 =>
    br wb32
      (some (AV.tup [iv 0, iv 3]))
      (optK (br (decide (w64 (w64 (w64 (d.1 * 86400) + kr) - z.1) < 0))
          (some (bv true))
          (some (bv (decide (w64 (w64 (w64 (d.1 * 86400) + kr) - z.1) > 253402300799))))) fun wv33 =>
      Ab.asBool wv33 fun wb34 =>
      br wb34
        (some (AV.tup [iv 0, iv 15]))
        (some (AV.tup [iv (w64 (w64 (w64 (d.1 * 86400) + kr) - z.1)), iv 0])))) = some (pairII (if (!d.2 || (!k.2 || !z.2)) = true then (0, 3) else if d.1 * 86400 + k.1 - z.1 < 0 ∨ d.1 * 86400 + k.1 - z.1 > 253402300799 then (0, 15) else (d.1 * 86400 + k.1 - z.1, 0))) := by
  obtain ⟨d, dk⟩ := d
  obtain ⟨k, kk⟩ := k
  obtain ⟨z, zk⟩ := z
  simp only [] at hd hk hz h1 h2 ⊢
  cases dk with
  | false => rfl
  | true =>
    cases kk with
    | false =>
      rw [h2 rfl]
      rfl
    | true =>
      rw [h1 rfl, Bool.not_true, br_f, br_noD (by omega)]
      cases zk with
      | false => rfl
      | true =>
        simp only [Bool.not_true, optK_s, asBool_v, br_f, Bool.or_false]
        rw [if_neg (by decide), w64_id (n := d * 86400) (by omega) (by omega), w64_id (n := d * 86400 + k) (by omega) (by omega), w64_id (n := d * 86400 + k - z) (by omega) (by omega)]
        by_cases h0 : d * 86400 + k - z < 0
        · rw [br_yesD h0, if_pos (.inl h0)]; rfl
        · rw [br_noD h0]
          simp only [optK_s, asBool_v]
          by_cases hl : d * 86400 + k - z > 253402300799
          · rw [br_yesD hl, if_pos (.inr hl)]; rfl
          · rw [br_noD hl, if_neg (by omega)]; rfl
theorem trim_sp {x y : UInt8} : trimPre [32] [x, y] = if x = 32 then [y] else [x, y] := by
  unfold trimPre
  by_cases h : x = 32
  · subst h; rfl
  · rw [if_neg h]
    have : ([32] : List UInt8).isPrefixOf [x, y] = false := by
      simp only [List.isPrefixOf, Bool.and_true]
      exact beq_eq_false_iff_ne.2 (Ne.symm h)
    rw [this, if_neg (by decide)]
set_option maxHeartbeats 1000000 in
theorem t_ParseR (l : List UInt8) : PureCall X f_ref07_Parse (encB1 l) (pairII (parseB l)) := by
  refine pcref07_Parse (tab_ok _ tbV_ok) (lref07_Parse_ref07_split_0 := loopF (Rref07_Parse_ref07_split_0 (tabK tbV) some) (encSpp (l.take 11) 45) (PSpp (l.take 11)) (outSpp (l.take 11) 45)) loopF_ok ?_
  unfold Rref07_Parse parseB
  rw [bs_size]
  by_cases h26 : l.length = 26
  · rw [br_neg (b := ((l.length : Nat) : Int) != 26) (by simp [h26]), br_yesD (by omega), br_yesD (p := 20 < ((l.length : Nat) : Int)) (by omega)]
    have e : ∀ i, i < 26 → ((bt (bs l) i != 32) = !decide (l[i]? = some 32)) := by
      intro i hi
      rw [bt_bs, List.getElem?_eq_getElem (by omega)]
      simp only [Option.getD_some, Option.some.injEq]
      by_cases h : l[i] = 32
      · rw [h]; rfl
      · rw [decide_eq_false h]
        simp only [Bool.not_false, bne_iff_ne]
        intro h'
        exact h (UInt8.toNat_inj.1 (by show l[i].toNat = 32; omega))
    rw [e 11 (by decide), e 20 (by decide)]
    by_cases h11 : l[11]? = some 32
    · by_cases h20 : l[20]? = some 32
      · rw [decide_eq_true h11, decide_eq_true h20]
        simp only [Bool.not_true, br_f, optK_s, asBool_v]
        rw [if_neg (fun h => h.elim (· h26) fun h => h.elim (· h11) (· h20)), br_yesD (by omega), cut_to, cut_both, cut_from]
        rw [show (11 : Int).toNat = 11 from rfl, show (12 : Int).toNat = 12 from rfl, show (20 : Int).toNat = 20 from rfl, show (21 : Int).toNat = 21 from rfl]
        have hL := l_Spp (tabK tbV) (l.take 11) 45 (a := ([], [], 0)) ⟨Nat.zero_le _, by rw [List.length_take]; omega, Nat.zero_le _, Nat.zero_le _⟩
        have hL' : loopF (Rref07_Parse_ref07_split_0 (tabK tbV) some) (encSpp (l.take 11) 45) (PSpp (l.take 11)) (outSpp (l.take 11) 45) (.s0 (bs (l.take 11)) 45 0 [sv { data := #[] }]) = some (.x0 (svs (splitL 45 (l.take 11)))) := by
          have : outSpp (l.take 11) 45 ([], [], 0) = .x0 (svs (splitL 45 (l.take 11))) := by
            simp only [outSpp, List.nil_append, List.drop_zero, splitW_nil]
          rw [← this]; exact hL
        rw [hL']
        simp only [optK_s, Oref07_Parse_ref07_split_0.k, svs_length]
        have hall : ∀ p ∈ splitL 45 (l.take 11), p.length ≤ 1000000 := by
          intro p hp
          have hj := splitL_join 45 (l.take 11)
          have h1 : p.length ≤ ((splitL 45 (l.take 11)).intersperse [45]).flatten.length := by
            have : ∀ (L : List (List UInt8)), p ∈ L → p.length ≤ L.flatten.length := by
              intro L hL
              induction L with
              | nil => cases hL
              | cons a L ih =>
                simp only [List.flatten_cons, List.length_append]
                rcases List.mem_cons.1 hL with rfl | h
                · omega
                · have := ih h; omega
            exact this _ (mem_intersperse hp)
          rw [hj, List.length_take] at h1
          omega
        by_cases h3 : (splitL 45 (l.take 11)).length = 3
        · revert h3 hall
          generalize splitL 45 (l.take 11) = ps
          intro hall h3
          match ps, h3, hall with
          | [a, m, y], _, hall =>
            have hm := hall m (by simp)
            have hcr := calB_range (trimPre [32] a) m y
            have hkr := clockB_range ((l.take 20).drop 12) false
            have hzr := zoneB_range (l.drop 21)
            have hkk : ∀ T, tabK tbV f_ref07_clock [sv (bs ((l.take 20).drop 12)), bv false] = T → T = some (iv (clockR ((l.take 20).drop 12) false)) := fun T h => by
              rw [← h]; exact k_clockR (T := tbV) rfl _ false (by rw [List.length_drop, List.length_take]; omega)
            have hend := parse_end (calB (trimPre [32] a) m y) (clockB ((l.take 20).drop 12) false) (zoneB (l.drop 21)) (clockR ((l.take 20).drop 12) false) (clockB_val _ _) (clockR_neg _ _) hcr hkr hzr
            have hk1 := k_clockR (T := tbV) rfl ((l.take 20).drop 12) false (by rw [List.length_drop, List.length_take]; omega)
            have hz1 := k_zoneR (T := tbV) rfl (l.drop 21)
            have q0 : decide (0 < ((([a, m, y] : List (List UInt8)).length : Nat) : Int)) = true := rfl
            have q1 : decide (1 < ((([a, m, y] : List (List UInt8)).length : Nat) : Int)) = true := rfl
            have q2 : decide (2 < ((([a, m, y] : List (List UInt8)).length : Nat) : Int)) = true := rfl
            have q3 : ((([a, m, y] : List (List UInt8)).length : Int) != 3) = false := rfl
            have g0 : (svs [a, m, y])[0]? = some (sv (bs a)) := rfl
            have g1 : (svs [a, m, y])[1]? = some (sv (bs m)) := rfl
            have g2 : (svs [a, m, y])[2]? = some (sv (bs y)) := rfl
            have c20 : decide (20 ≤ ((l.length : Nat) : Int)) = true := decide_eq_true (by omega)
            have c21 : decide (21 ≤ ((l.length : Nat) : Int)) = true := decide_eq_true (by omega)
            by_cases ha : a.length = 2
            · match a, ha with
              | [u, v], _ =>
                have s2 : ((((bs [u, v]).size : Nat) : Int) != 2) = false := rfl
                have s1 : decide (0 < (((bs [u, v]).size : Nat) : Int)) = true := rfl
                have s3 : decide (1 ≤ (((bs [u, v]).size : Nat) : Int)) = true := rfl
                have b0 : bt (bs [u, v]) 0 = (u.toNat : Int) := bt_get (l := [u, v]) (i := 0) (by simp)
                have hset : (svs [[u, v], m, y]).set 0 (sv (bs [v])) = svs [[v], m, y] := rfl
                have g0' : (svs [[v], m, y])[0]? = some (sv (bs [v])) := rfl
                have g1' : (svs [[v], m, y])[1]? = some (sv (bs m)) := rfl
                have g2' : (svs [[v], m, y])[2]? = some (sv (bs y)) := rfl
                have cv : cutStr (bs [u, v]) (some 1) none = bs [v] := by rw [cut_from]; rfl
                have q0' : decide (0 < (((svs [[v], m, y]).length : Nat) : Int)) = true := rfl
                have q1' : decide (1 < (((svs [[v], m, y]).length : Nat) : Int)) = true := rfl
                have q2' : decide (2 < (((svs [[v], m, y]).length : Nat) : Int)) = true := rfl
                have hu : ((u.toNat : Int) == 32) = decide (u = 32) := by
                  rw [Bool.eq_iff_iff, beq_iff_eq, decide_eq_true_eq]
                  constructor
                  · intro h; exact UInt8.toNat_inj.1 (by show u.toNat = 32; omega)
                  · rintro rfl; rfl
                simp only [trim_sp] at hend ⊢
                simp only [q0, q1, q2, q3, g0, g1, g2, br_t, br_f, optK_s, asBool_v, asStr_v, s1, s2, s3, b0, hu, cv, hset, g0', g1', g2', q0', q1', q2', c20, c21]
                rw [if_neg (show ¬ [u, v].length ≠ 2 by simp)]
                by_cases h32 : u = 32
                · rw [br_yesD h32]
                  simp only [if_pos h32] at hend ⊢
                  have hy1 := k_ymd (T := tbV) rfl [v] m y hm
                  rw [hy1, hk1, hz1]
                  simp only [optK_s, pairIB]
                  rw [asTup_v _ 2 rfl]
                  simp only [List.getD_cons_zero, List.getD_cons_succ, asInt_v, asBool_v]
                  rw [asTup_v _ 2 rfl]
                  simp only [List.getD_cons_zero, List.getD_cons_succ, asInt_v, asBool_v]
                  exact hend
                · rw [br_noD h32]
                  simp only [if_neg h32] at hend ⊢
                  have hy1 := k_ymd (T := tbV) rfl [u, v] m y hm
                  rw [hy1, hk1, hz1]
                  simp only [optK_s, pairIB]
                  rw [asTup_v _ 2 rfl]
                  simp only [List.getD_cons_zero, List.getD_cons_succ, asInt_v, asBool_v]
                  rw [asTup_v _ 2 rfl]
                  simp only [List.getD_cons_zero, List.getD_cons_succ, asInt_v, asBool_v]
                  exact hend
            · have s2 : ((((bs a).size : Nat) : Int) != 2) = true := by rw [bs_size]; simp; omega
              simp only [q0, q3, g0, br_t, br_f, optK_s, asBool_v, asStr_v, s2]
              rw [if_pos (by simpa using ha)]
              rfl
        · rw [br_pos (b := (((splitL 45 (l.take 11)).length : Nat) : Int) != 3) (by simp; omega)]
          simp only [optK_s, asBool_v, br_t]
          split
          · rename_i h; rw [h] at h3; exact absurd rfl h3
          · rfl
      · rw [decide_eq_true h11, decide_eq_false h20, if_pos (.inr (.inr h20))]; rfl
    · rw [decide_eq_false h11, if_pos (.inr (.inl h11))]; rfl
  · rw [br_pos (by simp; omega), if_pos (.inl h26)]; rfl
noncomputable abbrev E_ParseR := callF X f_ref07_Parse encB1 (fun _ => True) fun l => pairII (parseB l)
theorem k_ParseR {T : Tab} (hT : tabK T f_ref07_Parse = E_ParseR) (l : List UInt8) : tabK T f_ref07_Parse [sv (bs l)] = some (pairII (parseB l)) := by
  rw [hT]
  exact callF_eq (enc := encB1) (P := fun _ => True) (f := fun l => pairII (parseB l)) (fun l _ => t_ParseR l) (fun x y h => by rw [encB1_inj h]) trivial


abbrev encWd (l : List UInt8) (a : Option (List (List UInt8)) × List UInt8 × Nat) : Sref07_words_0 := match a.1 with
  | none => .s0 (bs l) (bs a.2.1) (a.2.2 : Int)
  | some ps => .s1 (bs l) (bs a.2.1) (a.2.2 : Int) (svs ps)
abbrev PWd (l : List UInt8) (a : Option (List (List UInt8)) × List UInt8 × Nat) : Prop := a.2.2 ≤ l.length + 1 ∧ l.length ≤ 1000000 ∧ (a.1.getD []).length ≤ a.2.2 ∧ a.2.1.length ≤ a.2.2 ∧ (a.2.2 = l.length + 1 → a.2.1 = []) ∧ (a.1 = some [] → False)
def finW (ob : Option (List (List UInt8))) (r : List (List UInt8)) : Oref07_words_0 := match ob, r with
  | none, [] => .x0
  | none, p :: r => .x1 (svs (p :: r))
  | some ps, r => .x1 (svs (ps ++ r))
def restW (l w : List UInt8) (i : Nat) : List (List UInt8) := if i ≤ l.length then fieldsGo (l.drop i) w else []
def outWd (l : List UInt8) (a : Option (List (List UInt8)) × List UInt8 × Nat) : Oref07_words_0 := finW a.1 (restW l a.2.1 a.2.2)
theorem encWd_inj {l : List UInt8} {x y : Option (List (List UInt8)) × List UInt8 × Nat} (h : encWd l x = encWd l y) : x = y := by
  obtain ⟨x1, x2, x3⟩ := x
  obtain ⟨y1, y2, y3⟩ := y
  cases x1 <;> cases y1 <;> simp [encWd, bs_inj_iff] at h
  · obtain ⟨rfl, h⟩ := h; rw [show x3 = y3 by omega]
  · obtain ⟨rfl, h, h2⟩ := h
    rw [show x3 = y3 by omega, svs_inj h2]
theorem finW_push (ob : Option (List (List UInt8))) (w : List UInt8) (r : List (List UInt8)) : finW ob (w :: r) = finW (some (ob.getD [] ++ [w])) r := by
  cases ob <;> simp [finW]
set_option maxHeartbeats 1000000 in
theorem l_Wd (K : PureK) (l : List UInt8) {a : Option (List (List UInt8)) × List UInt8 × Nat} (h : PWd l a) : loopF (Rref07_words_0 K some) (encWd l) (PWd l) (outWd l) (encWd l a) = some (outWd l a) := by
  refine loopF_eq (fun a => l.length + 1 - a.2.2) ?_ (fun x y h => by rw [encWd_inj h]) h
  rintro ⟨ob, w, i⟩ rec ⟨h1, h2, h3, h4, h5, h6⟩ hrec
  simp only [] at h1 h2 h3 h4 h5 h6
  have hsz : (bs l).size = l.length := bs_size l
  by_cases hi : i ≤ l.length
  · have c0 : decide ((i : Int) ≤ ((l.length : Nat) : Int)) = true := decide_eq_true (by omega)
    have w1 : w64 ((i : Int) + 1) = (i : Int) + 1 := w64_id (by omega) (by omega)
    have hp : decide (0 ≤ (i : Int)) = true := decide_eq_true (by omega)
    have ho1 : lenOk ((ob.getD []).length + 1) 16 = true ∧ lenOk ((ob.getD []).length + 1) 1 = true := ⟨lenOk_of (by omega), lenOk_of (by omega)⟩
    have hne : strEq (bs w) ({ data := #[] } : ByteArray) = decide (w = []) := by rw [emp, strEq_bs]; cases w <;> rfl
    -- the word goes on
    have hgo : ∀ (hlt : i < l.length), blankB l[i] = false → rec (encWd l (ob, w ++ [l[i]], i + 1)) = some (outWd l (ob, w, i)) := by
      intro hlt hb
      rw [hrec (ob, w ++ [l[i]], i + 1) ⟨by simp only []; omega, h2, by simp only []; omega, by simp; omega, by simp only []; omega, h6⟩ (by simp only []; omega)]
      simp only [outWd, restW]
      rw [if_pos (by omega), if_pos hi, List.drop_eq_getElem_cons hlt]
      simp only [fieldsGo, hb]
      rfl
    -- it ends
    have hend : (∀ hlt : i < l.length, blankB l[i] = true) → w ≠ [] → rec (encWd l (some (ob.getD [] ++ [w]), [], i + 1)) = some (outWd l (ob, w, i)) := by
      intro hb hw
      rw [hrec (some (ob.getD [] ++ [w]), [], i + 1) ⟨by simp only []; omega, h2, by simp; omega, by simp, by simp, by simp⟩ (by simp only []; omega)]
      simp only [outWd]
      have : restW l w i = w :: restW l [] (i + 1) := by
        unfold restW
        rw [if_pos hi]
        by_cases hlt : i < l.length
        · rw [if_pos (by omega), List.drop_eq_getElem_cons hlt]
          simp only [fieldsGo, hb hlt, if_true]
          rw [if_neg hw]
        · rw [if_neg (by omega), List.drop_eq_nil_of_le (by omega)]
          simp only [fieldsGo]
          rw [if_neg hw]
      rw [this, finW_push]
    have hskip : (∀ hlt : i < l.length, blankB l[i] = true) → w = [] → rec (encWd l (ob, [], i + 1)) = some (outWd l (ob, w, i)) := by
      intro hb hw
      subst hw
      rw [hrec (ob, [], i + 1) ⟨by simp only []; omega, h2, by simp only []; omega, by simp, by simp, h6⟩ (by simp only []; omega)]
      simp only [outWd]
      have : restW l [] i = restW l [] (i + 1) := by
        unfold restW
        rw [if_pos hi]
        by_cases hlt : i < l.length
        · rw [if_pos (by omega), List.drop_eq_getElem_cons hlt]
          simp only [fieldsGo, hb hlt, if_true]
        · rw [if_neg (by omega), List.drop_eq_nil_of_le (by omega)]
          rfl
      rw [this]
    have e1 : ((i + 1 : Nat) : Int) = (i : Int) + 1 := by omega
    by_cases hlt : i < l.length
    · have c1 : decide ((i : Int) < ((l.length : Nat) : Int)) = true := decide_eq_true (by omega)
      have hb : bt (bs l) ((i : Int)).toNat = (l[i].toNat : Int) := by rw [Int.toNat_natCast]; exact bt_get hlt
      have hask : br ((l[i].toNat : Int) != 32) (some (bv ((l[i].toNat : Int) != 9))) (some (bv false)) = some (bv (!blankB l[i])) := by
        have hz : ∀ n : Nat, n < 256 → (((l[i].toNat : Int)) == (n : Int)) = (l[i] == UInt8.ofNat n) := by
          intro n hn
          rw [Bool.eq_iff_iff, beq_iff_eq, beq_iff_eq]
          constructor
          · intro h; rw [← show l[i].toNat = n by omega, UInt8.ofNat_toNat]
          · intro h; rw [h]; simp; omega
        have z1 : ((l[i].toNat : Int) != 32) = !(l[i] == 32) := by unfold bne; rw [show ((32 : Int)) = ((32 : Nat) : Int) from rfl, hz 32 (by decide)]; rfl
        have z2 : ((l[i].toNat : Int) != 9) = !(l[i] == 9) := by unfold bne; rw [show ((9 : Int)) = ((9 : Nat) : Int) from rfl, hz 9 (by decide)]; rfl
        rw [z1, z2]
        unfold blankB
        cases (l[i] == 32) <;> rfl
      have hcut : cutStr (bs l) (some (i : Int)) (some ((i : Int) + 1)) = bs [l[i]] := by
        rw [cut_both, show ((i : Int) + 1).toNat = i + 1 by omega, Int.toNat_natCast, List.take_succ_eq_append_getElem hlt, List.drop_append_of_le_length (by simp; omega), List.drop_eq_nil_of_le (by simp; omega)]
        rfl
      have c2 : decide ((i : Int) ≤ (i : Int) + 1) = true := decide_eq_true (by omega)
      have c3 : decide ((i : Int) + 1 ≤ ((l.length : Nat) : Int)) = true := decide_eq_true (by omega)
      have hm : ((bs w).size + (bs [l[i]]).size).ble maxStr = true := maxStr_ok (by rw [bs_size, bs_size, List.length_singleton]; omega)
      cases ob with
      | none =>
        simp only [encWd, Rref07_words_0, hsz, c0, c1, hp, hb, br_t, hask, optK_s, asBool_v, w1, hcut, c2, c3, hm, cat_bs, hne]
        cases hbl : blankB l[i] with
        | false =>
          have := hgo hlt hbl
          simp only [encWd, e1] at this
          rw [Bool.not_false, br_t]; exact this
        | true =>
          rw [Bool.not_true, br_f]
          by_cases hw : w = []
          · have := hskip (fun _ => hbl) hw
            simp only [encWd, e1] at this
            rw [decide_eq_true hw, Bool.not_true, br_f]; exact this
          · have := hend (fun _ => hbl) hw
            simp only [encWd, e1, Option.getD_none, List.nil_append] at this
            rw [decide_eq_false hw, Bool.not_false, br_t]; exact this
      | some ps =>
        have hl1 : (lenOk ((svs ps).length + [sv (bs w)].length) 16 && lenOk ((svs ps).length + [sv (bs w)].length) 1) = true := by
          rw [svs_length]; exact lenOks_of (by omega) (by simp at h3 ⊢; omega)
        have happ : svs ps ++ [sv (bs w)] = svs (ps ++ [w]) := by simp [svs]
        simp only [encWd, Rref07_words_0, hsz, c0, c1, hp, hb, br_t, hask, optK_s, asBool_v, w1, hcut, c2, c3, hm, cat_bs, hne, hl1, happ]
        cases hbl : blankB l[i] with
        | false =>
          have := hgo hlt hbl
          simp only [encWd, e1] at this
          rw [Bool.not_false, br_t]; exact this
        | true =>
          rw [Bool.not_true, br_f]
          by_cases hw : w = []
          · have := hskip (fun _ => hbl) hw
            simp only [encWd, e1] at this
            rw [decide_eq_true hw, Bool.not_true, br_f]; exact this
          · have := hend (fun _ => hbl) hw
            simp only [encWd, e1, Option.getD_some] at this
            rw [decide_eq_false hw, Bool.not_false, br_t]; exact this
    · have c1 : decide ((i : Int) < ((l.length : Nat) : Int)) = false := decide_eq_false (by omega)
      cases ob with
      | none =>
        simp only [encWd, Rref07_words_0, hsz, c0, c1, br_t, br_f, optK_s, asBool_v, w1, hne]
        by_cases hw : w = []
        · have := hskip (fun h => absurd h hlt) hw
          simp only [encWd, e1] at this
          rw [decide_eq_true hw, Bool.not_true, br_f]; exact this
        · have := hend (fun h => absurd h hlt) hw
          simp only [encWd, e1, Option.getD_none, List.nil_append] at this
          rw [decide_eq_false hw, Bool.not_false, br_t]; exact this
      | some ps =>
        have hl1 : (lenOk ((svs ps).length + [sv (bs w)].length) 16 && lenOk ((svs ps).length + [sv (bs w)].length) 1) = true := by
          rw [svs_length]; exact lenOks_of (by omega) (by simp at h3 ⊢; omega)
        have happ : svs ps ++ [sv (bs w)] = svs (ps ++ [w]) := by simp [svs]
        simp only [encWd, Rref07_words_0, hsz, c0, c1, br_t, br_f, optK_s, asBool_v, w1, hne, hl1, happ]
        by_cases hw : w = []
        · have := hskip (fun h => absurd h hlt) hw
          simp only [encWd, e1] at this
          rw [decide_eq_true hw, Bool.not_true, br_f]; exact this
        · have := hend (fun h => absurd h hlt) hw
          simp only [encWd, e1, Option.getD_some] at this
          rw [decide_eq_false hw, Bool.not_false, br_t]; exact this
  · have c0 : decide ((i : Int) ≤ ((l.length : Nat) : Int)) = false := decide_eq_false (by omega)
    have hr : restW l w i = [] := by unfold restW; rw [if_neg hi]
    cases ob with
    | none => simp only [encWd, Rref07_words_0, hsz, c0, br_f, outWd, hr, finW]
    | some ps => simp only [encWd, Rref07_words_0, hsz, c0, br_f, outWd, hr, finW, List.append_nil]
theorem t_words (l : List UInt8) (h : l.length ≤ 1000000) : PureCall X f_ref07_words (encB1 l) (.lst 1 (fieldsL l).isEmpty (svs (fieldsL l))) := by
  refine pcref07_words ok_nil (lref07_words_0 := loopF (Rref07_words_0 (tabK []) some) (encWd l) (PWd l) (outWd l)) loopF_ok ?_
  unfold Rref07_words
  have := l_Wd (tabK []) l (a := (none, [], 0)) ⟨Nat.zero_le _, h, Nat.zero_le _, Nat.zero_le _, fun _ => rfl, fun h => by cases h⟩
  have h' : loopF (Rref07_words_0 (tabK []) some) (encWd l) (PWd l) (outWd l) (.s0 (bs l) { data := #[] } 0) = some (outWd l (none, [], 0)) := this
  rw [h']
  simp only [optK_s, outWd, restW]
  rw [if_pos (Nat.zero_le _), List.drop_zero]
  unfold fieldsL
  cases fieldsGo l [] with
  | nil => rfl
  | cons p r => rfl
noncomputable abbrev E_words := callF X f_ref07_words encB1 (fun l => l.length ≤ 1000000) fun l => .lst 1 (fieldsL l).isEmpty (svs (fieldsL l))
theorem k_words {T : Tab} (hT : tabK T f_ref07_words = E_words) (l : List UInt8) (h : l.length ≤ 1000000) : tabK T f_ref07_words [sv (bs l)] = some (.lst 1 (fieldsL l).isEmpty (svs (fieldsL l))) := by
  rw [hT]
  exact callF_eq (enc := encB1) (P := fun l => l.length ≤ 1000000) (f := fun l => .lst 1 (fieldsL l).isEmpty (svs (fieldsL l))) t_words (fun x y h => by rw [encB1_inj h]) h


theorem suf_one (l : List UInt8) (c : UInt8) (h : 1 ≤ l.length) : sufB l [c] = (l[l.length - 1] == c) := by
  unfold sufB
  rw [decide_eq_true (show [c].length ≤ l.length by simpa using h), Bool.true_and]
  have e : l.drop (l.length - [c].length) = [l[l.length - 1]] := by
    simp only [List.length_cons, List.length_nil, Nat.zero_add]
    rw [List.drop_eq_getElem_cons (by omega), List.drop_eq_nil_of_le (by omega)]
  rw [e]
  show (l[l.length - 1] == c && true) = _
  rw [Bool.and_true]
theorem pre_one : ∀ (l : List UInt8) (c : UInt8) (h : 1 ≤ l.length), [c].isPrefixOf l = (l[0] == c)
  | x :: r, c, _ => by
    simp only [List.isPrefixOf, Bool.and_true, List.getElem_cons_zero]
    rw [Bool.eq_iff_iff, beq_iff_eq, beq_iff_eq]
    exact ⟨fun h => h.symm, fun h => h.symm⟩
theorem let_all : ∀ n : Fin 256, (decide (w8 ((((BitVec.ofInt 8 ((n.1 : Nat) : Int) ||| BitVec.ofInt 8 32).toNat : Nat) : Int)) < 97) || decide (w8 ((((BitVec.ofInt 8 ((n.1 : Nat) : Int) ||| BitVec.ofInt 8 32).toNat : Nat) : Int)) > 122)) = !isLet (UInt8.ofNat n.1) := by decide +kernel
theorem let_c (c : UInt8) : (decide (w8 ((((BitVec.ofInt 8 (c.toNat : Int) ||| BitVec.ofInt 8 32).toNat : Nat) : Int)) < 97) || decide (w8 ((((BitVec.ofInt 8 (c.toNat : Int) ||| BitVec.ofInt 8 32).toNat : Nat) : Int)) > 122)) = !isLet c := by
  have := let_all ⟨c.toNat, c.toNat_lt⟩
  rw [UInt8.ofNat_toNat] at this
  exact this
abbrev encWk (l : List UInt8) (i : Nat) : Sref07_week_0 := .s0 (bs l) (i : Int)
def outWk (l : List UInt8) (i : Nat) : Oref07_week_0 := match ((l.take (l.length - 1)).drop i).all isLet with
  | true => .x1
  | false => .x0 false
theorem l_Wk (K : PureK) (l : List UInt8) (hl : 1 ≤ l.length) (hl2 : l.length ≤ 1000000) {i : Nat} (h : i ≤ l.length - 1) : loopF (Rref07_week_0 K some) (encWk l) (fun i => i ≤ l.length - 1) (outWk l) (encWk l i) = some (outWk l i) := by
  refine loopF_eq (fun i => l.length - i) ?_ (fun x y h => by
    have : (x : Int) = y := by simpa [encWk] using h
    rw [show x = y by omega]) h
  intro i rec hi hrec
  simp only [encWk, Rref07_week_0, bs_size]
  rw [w64_id (n := (l.length : Int) - 1) (by omega) (by omega)]
  by_cases hlt : i < l.length - 1
  · have hil : i < l.length := by omega
    have hb : bt (bs l) ((i : Int)).toNat = (l[i].toNat : Int) := by rw [Int.toNat_natCast]; exact bt_get hil
    rw [br_yesD (by omega), br_yesD (by omega), br_yesD (by omega), hb]
    have hask : ∀ (c d : Bool), br c (some (bv true)) (some (bv d)) = some (bv (c || d)) := fun c d => by cases c <;> rfl
    rw [hask, let_c]
    simp only [optK_s, asBool_v, outWk]
    have hd : (l.take (l.length - 1)).drop i = l[i] :: (l.take (l.length - 1)).drop (i + 1) := by
      rw [List.drop_eq_getElem_cons (by rw [List.length_take]; omega), List.getElem_take]
    rw [hd, List.all_cons]
    cases isLet l[i] with
    | false => rfl
    | true =>
      rw [Bool.not_true, br_f, w64_id (n := (i : Int) + 1) (by omega) (by omega), show ((i : Int) + 1) = ((i + 1 : Nat) : Int) by omega, Bool.true_and]
      exact hrec (i + 1) (by omega) (by omega)
  · rw [br_noD (by omega)]
    simp only [outWk]
    rw [List.drop_eq_nil_of_le (by rw [List.length_take]; omega)]
    rfl
theorem t_weekR (l : List UInt8) (h : l.length ≤ 1000000) : PureCall X f_ref07_week (encB1 l) (bv (weekB l)) := by
  refine pcref07_week ok_nil (lref07_week_0 := loopF (Rref07_week_0 (tabK []) some) (encWk l) (fun i => i ≤ l.length - 1) (outWk l)) loopF_ok ?_
  unfold Rref07_week
  rw [bs_size]
  by_cases h2 : l.length < 2
  · rw [br_yesD (by omega)]
    have : weekB l = false := by
      unfold weekB
      match l, h2 with
      | [], _ => rfl
      | [a], _ => simp
    rw [this]; rfl
  · rw [br_noD (by omega), w64_id (n := (l.length : Int) - 1) (by omega) (by omega), br_yesD (by omega), br_yesD (by omega)]
    have hb : bt (bs l) ((l.length : Int) - 1).toNat = (l[l.length - 1].toNat : Int) := by
      rw [show ((l.length : Int) - 1).toNat = l.length - 1 by omega]; exact bt_get (by omega)
    rw [hb]
    have hs : sufB l [44] = (l[l.length - 1] == 44) := suf_one l 44 (by omega)
    have hz : ((l[l.length - 1].toNat : Int) != 44) = !(l[l.length - 1] == 44) := by
      unfold bne
      congr 1
      rw [Bool.eq_iff_iff, beq_iff_eq, beq_iff_eq]
      constructor
      · intro h; exact UInt8.toNat_inj.1 (by show _ = 44; omega)
      · intro h; rw [h]; rfl
    rw [hz]
    simp only [optK_s, asBool_v]
    have hL := l_Wk (tabK []) l (by omega) h (i := 0) (Nat.zero_le _)
    have hL' : loopF (Rref07_week_0 (tabK []) some) (encWk l) (fun i => i ≤ l.length - 1) (outWk l) (.s0 (bs l) 0) = some (outWk l 0) := hL
    rw [hL']
    unfold weekB
    rw [hs]
    have hne : (l.take (l.length - 1) == []) = false := by
      cases hq : l.take (l.length - 1) with
      | nil => have := congrArg List.length hq; simp at this; omega
      | cons a b => rfl
    rw [hne]
    cases (l[l.length - 1] == 44) with
    | false => rfl
    | true =>
      simp only [Bool.not_true, br_f, optK_s, outWk, List.drop_zero, Bool.not_false, Bool.and_self, Bool.true_and]
      cases (l.take (l.length - 1)).all isLet <;> rfl
noncomputable abbrev E_weekR := callF X f_ref07_week encB1 (fun l => l.length ≤ 1000000) fun l => bv (weekB l)
theorem k_weekR {T : Tab} (hT : tabK T f_ref07_week = E_weekR) (l : List UInt8) (h : l.length ≤ 1000000) : tabK T f_ref07_week [sv (bs l)] = some (bv (weekB l)) := by
  rw [hT]
  exact callF_eq (enc := encB1) (P := fun l => l.length ≤ 1000000) (f := fun l => bv (weekB l)) t_weekR (fun x y h => by rw [encB1_inj h]) h

noncomputable def tbMr : Tab := [(f_ref07_words, E_words), (f_ref07_week, E_weekR), (f_ref07_ymd, E_ymd), (f_ref07_clock, E_clockR), (f_ref07_zone, E_zoneR), (f_ref07_split, E_split)]
theorem tbMr_ok : TabOk X tbMr := tab_cons callQ_ok (tab_cons callQ_ok (tab_cons callQ_ok (tab_cons callQ_ok (tab_cons callQ_ok (tab_cons callQ_ok tab_nil)))))
theorem ask_zoneR (ws : List (List UInt8)) (h : ∀ p ∈ ws, p.length ≤ 1000000) (L : List AV) (hL : L = svs ws) :
    (br (((L.length : Nat) : Int) == 6)
      (br (decide (5 < ((L.length : Nat) : Int)))
        (optK (L[5]?) fun wv10 =>
        Ab.asStr wv10 fun ws11 =>
        br (decide (((ws11.size : Nat) : Int) ≥ 2))
          (br (decide (5 < ((L.length : Nat) : Int)))
            (optK (L[5]?) fun wv12 =>
            Ab.asStr wv12 fun ws13 =>
            br (decide (0 < ((ws13.size : Nat) : Int)))
              (br (bt ws13 0 == 40)
                (br (decide (5 < ((L.length : Nat) : Int)))
                  (optK (L[5]?) fun wv14 =>
                  Ab.asStr wv14 fun ws15 =>
                  br (decide (5 < ((L.length : Nat) : Int)))
                    (optK (L[5]?) fun wv16 =>
                    Ab.asStr wv16 fun ws17 =>
                    br (decide (0 ≤ w64 (((ws17.size : Nat) : Int) - 1)))
                      (br (decide (w64 (((ws17.size : Nat) : Int) - 1) < ((ws15.size : Nat) : Int)))
                        (some (bv (bt ws15 (w64 (((ws17.size : Nat) : Int) - 1)).toNat == 41)))
                        (none))
                      (none))
                    (none))
                  (none))
                (some (bv false)))
              (none))
            (none))
          (some (bv false)))
        (none))
      (some (bv false))) = some (bv (zoneAsk ws)) := by
  subst hL
  rw [svs_length]
  match ws, h with
  | [a, b, c, d, e, n], h =>
    have hn := h n (by simp)
    show _ = some (bv (decide (2 ≤ n.length) && ([40].isPrefixOf n && sufB n [41])))
    have h5 : decide (5 < ((([a, b, c, d, e, n] : List (List UInt8)).length : Nat) : Int)) = true := rfl
    rw [br_pos (by rfl)]
    simp only [h5, br_t, svs, List.map_cons, List.map_nil, List.getElem?_cons_succ, List.getElem?_cons_zero, optK_s, asStr_v, bs_size]
    by_cases h2 : 2 ≤ n.length
    · rw [br_yesD (by omega), decide_eq_true h2, br_yesD (by omega), w64_id (n := (n.length : Int) - 1) (by omega) (by omega), br_yesD (by omega), br_yesD (by omega)]
      have b0 : bt (bs n) 0 = (n[0].toNat : Int) := bt_get (by omega)
      have b1 : bt (bs n) ((n.length : Int) - 1).toNat = (n[n.length - 1].toNat : Int) := by
        rw [show ((n.length : Int) - 1).toNat = n.length - 1 by omega]; exact bt_get (by omega)
      rw [b0, b1]
      have hz : ∀ (x : UInt8) (k : Nat), k < 256 → (((x.toNat : Int)) == (k : Int)) = (x == UInt8.ofNat k) := by
        intro x k hk
        rw [Bool.eq_iff_iff, beq_iff_eq, beq_iff_eq]
        constructor
        · intro h; rw [← show x.toNat = k by omega, UInt8.ofNat_toNat]
        · rintro rfl; simp; omega
      have z0 : ((n[0].toNat : Int) == 40) = (n[0] == 40) := hz _ 40 (by decide)
      have z1 : ((n[n.length - 1].toNat : Int) == 41) = (n[n.length - 1] == 41) := hz _ 41 (by decide)
      rw [z0, z1]
      have p0 := pre_one n 40 (by omega)
      have p1 := suf_one n 41 (by omega)
      rw [p0, p1]
      cases (n[0] == 40) <;> rfl
    · rw [br_noD (by omega), decide_eq_false h2]
      rfl
  | [], _ => rfl
  | [_], _ => rfl
  | [_, _], _ => rfl
  | [_, _, _], _ => rfl
  | [_, _, _, _], _ => rfl
  | [_, _, _, _, _], _ => rfl
  | _ :: _ :: _ :: _ :: _ :: _ :: _ :: r, _ =>
    rw [br_neg (by simp; omega)]
    rfl
theorem mail_tailR (ws : List (List UInt8)) (h : ∀ p ∈ ws, p.length ≤ 1000000) (L : List AV) (hL : L = svs ws) :
    (br (((L.length : Nat) : Int) != 5)
      (some (AV.tup [iv 0, iv 3]))
      (br (decide (0 < ((L.length : Nat) : Int)))
        (optK L[0]? fun wv95 =>
        Ab.asStr wv95 fun ws96 =>
        br (decide (1 < ((L.length : Nat) : Int)))
          (optK L[1]? fun wv97 =>
          Ab.asStr wv97 fun ws98 =>
          br (decide (2 < ((L.length : Nat) : Int)))
            (optK L[2]? fun wv99 =>
            Ab.asStr wv99 fun ws100 =>
            optK (tabK tbMr f_ref07_ymd [sv ws96, sv ws98, sv ws100]) fun wv101 =>
            Ab.asTup wv101 2 fun wg102 =>
            Ab.asInt (wg102 0) .i64 fun wn103 =>
            Ab.asBool (wg102 1) fun wb104 =>
            br (decide (4 < ((L.length : Nat) : Int)))
              (optK L[4]? fun wv105 =>
              Ab.asStr wv105 fun ws106 =>
              optK (tabK tbMr f_ref07_zone [sv ws106]) fun wv107 =>
              Ab.asTup wv107 2 fun wg108 =>
              Ab.asInt (wg108 0) .i64 fun wn109 =>
              Ab.asBool (wg108 1) fun wb110 =>
              optK (br (!wb104)
                  (some (bv true))
                  (br (decide (3 < ((L.length : Nat) : Int)))
                    (optK L[3]? fun wv112 =>
                    Ab.asStr wv112 fun ws113 =>
                    optK (tabK tbMr f_ref07_clock [sv ws113, bv true]) fun wv114 =>
                    Ab.asInt wv114 .i64 fun wn115 =>
                    br (decide (wn115 < 0))
                      (some (bv true))
                      (some (bv !wb110)))
                    (none))) fun wv111 =>
              Ab.asBool wv111 fun wb116 =>
              br wb116
                (some (AV.tup [iv 0, iv 3]))
                (br (decide (wn103 < 0))
                  (some (AV.tup [iv 0, iv 15]))
                  (some (AV.tup [iv wn103, iv 0]))))
              (none))
            (none))
          (none))
        (none))) = some (pairII (tailB ws)) := by
  subst hL
  rw [svs_length]
  match ws, h with
  | [a, m, y, k, z], h =>
    have hk := h k (by simp)
    have hm := h m (by simp)
    have q0 : decide (0 < ((([a, m, y, k, z] : List (List UInt8)).length : Nat) : Int)) = true := rfl
    have q1 : decide (1 < ((([a, m, y, k, z] : List (List UInt8)).length : Nat) : Int)) = true := rfl
    have q2 : decide (2 < ((([a, m, y, k, z] : List (List UInt8)).length : Nat) : Int)) = true := rfl
    have q3 : decide (3 < ((([a, m, y, k, z] : List (List UInt8)).length : Nat) : Int)) = true := rfl
    have q4 : decide (4 < ((([a, m, y, k, z] : List (List UInt8)).length : Nat) : Int)) = true := rfl
    rw [br_neg (by rfl)]
    simp only [q0, q1, q2, q3, q4, br_t, svs, List.map_cons, List.map_nil, List.getElem?_cons_succ, List.getElem?_cons_zero, optK_s, asStr_v]
    rw [k_ymd (T := tbMr) rfl _ _ _ hm, k_clockR (T := tbMr) rfl _ _ hk, k_zoneR (T := tbMr) rfl]
    have hv := clockB_val k true
    have hn := clockR_neg k true
    have hr := (clockB_range k true).1
    unfold tailB
    simp only []
    generalize calB a m y = c
    generalize clockR k true = kr at hv hn ⊢
    generalize clockB k true = k at hv hn hr ⊢
    generalize zoneB z = z
    obtain ⟨c, cok⟩ := c
    obtain ⟨k, kok⟩ := k
    obtain ⟨z, zok⟩ := z
    simp only [] at hv hn hr
    simp only [optK_s, pairIB]
    rw [asTup_v _ 2 rfl]
    simp only [List.getD_cons_zero, List.getD_cons_succ, asInt_v, asBool_v]
    rw [asTup_v _ 2 rfl]
    simp only [List.getD_cons_zero, List.getD_cons_succ, asInt_v, asBool_v]
    have e2 : (br (!cok) (some (bv true)) (br (decide (kr < 0)) (some (bv true)) (some (bv !zok)))) = some (bv (!cok || (!kok || !zok))) := by
      cases cok with
      | false => rfl
      | true =>
        cases kok with
        | false => rw [hn rfl]; rfl
        | true => rw [hv rfl, Bool.not_true, br_f, br_noD (by omega)]; rfl
    rw [e2]
    simp only [optK_s, asBool_v]
    cases (!cok || (!kok || !zok)) with
    | true => rfl
    | false =>
      rw [br_f, if_neg (by decide)]
      by_cases h0 : c < 0
      · rw [br_yesD h0, if_pos h0]; rfl
      · rw [br_noD h0, if_neg h0]; rfl
  | [], _ => rfl
  | [_], _ => rfl
  | [_, _], _ => rfl
  | [_, _, _], _ => rfl
  | [_, _, _, _], _ => rfl
  | _ :: _ :: _ :: _ :: _ :: _ :: r, _ =>
    rw [br_pos (by simp; omega)]
    rfl
set_option maxHeartbeats 1000000 in
theorem t_MailR (l : List UInt8) : Rref07_Mail (tabK tbMr) (bs l) = some (pairII (mailB l)) := by
  unfold Rref07_Mail mailB
  rw [bs_size]
  by_cases h2 : l.length > 200
  · rw [br_yesD (by omega), if_pos h2]; rfl
  · rw [br_noD (by omega), if_neg h2, k_words (T := tbMr) rfl l (by omega)]
    simp only [optK_s, asLst_v]
    have hws : ∀ p ∈ fieldsL l, p.length ≤ 1000000 := fun p hp => by
      have := fieldsGo_len l [] p hp
      simp at this; omega
    generalize fieldsL l = ws at hws
    have hweek : (br (decide ((((svs ws).length : Nat) : Int) > 0)) (br (decide (0 < (((svs ws).length : Nat) : Int))) (optK (svs ws)[0]? fun wv4 => Ab.asStr wv4 fun ws5 => optK (tabK tbMr f_ref07_week [sv ws5]) fun wv6 => Ab.asBool wv6 fun wb7 => some (bv wb7)) none) (some (bv false))) = some (bv (headW ws)) := by
      cases ws with
      | nil => rfl
      | cons w r =>
        rw [svs_length, br_yesD (by simp), br_yesD (by simp)]
        simp only [svs, List.map_cons, List.getElem?_cons_zero, optK_s, asStr_v]
        rw [k_weekR (T := tbMr) rfl w (hws w (by simp))]
        rfl
    rw [hweek]
    simp only [optK_s, asBool_v]
    have hfin : ∀ vs : List (List UInt8), (∀ p ∈ vs, p.length ≤ 1000000) → ∀ L : List AV, L = svs vs → True := fun _ _ _ _ => trivial
    cases hw : headW ws with
    | true =>
      obtain ⟨w, r, rfl⟩ : ∃ w r, ws = w :: r := by cases ws with | nil => cases hw | cons w r => exact ⟨w, r, rfl⟩
      have hW : weekW (w :: r) = r := by
        have hw' : weekB w = true := hw
        simp only [weekW]; rw [if_pos hw']
      have hr : ∀ p ∈ r, p.length ≤ 1000000 := fun p hp => hws p (List.mem_cons_of_mem _ hp)
      have hD : List.drop 1 (svs (w :: r)) = svs r := rfl
      rw [br_t, hW, hD, br_yesD (by rw [svs_length]; simp; omega), ask_zoneR r hr _ rfl]
      simp only [optK_s, asBool_v]
      rw [zoneW_ask]
      cases hz : zoneAsk r with
      | true =>
        have h6 := zoneAsk_len hz
        rw [br_t, br_yesD (by rw [svs_length]; omega), if_pos rfl]
        exact mail_tailR (r.take 5) (fun p hp => hr p (List.mem_of_mem_take hp)) _ (by simp [svs])
      | false =>
        rw [br_f, if_neg (by decide)]
        exact mail_tailR r hr _ rfl
    | false =>
      have hW : weekW ws = ws := by
        cases ws with
        | nil => rfl
        | cons w r =>
          have hw' : weekB w = false := hw
          simp only [weekW]; rw [hw']; rfl
      rw [br_f, hW, ask_zoneR ws hws _ rfl]
      simp only [optK_s, asBool_v]
      rw [zoneW_ask]
      cases hz : zoneAsk ws with
      | true =>
        have h6 := zoneAsk_len hz
        rw [br_t, br_yesD (by rw [svs_length]; omega), if_pos rfl]
        exact mail_tailR (ws.take 5) (fun p hp => hws p (List.mem_of_mem_take hp)) _ (by simp [svs])
      | false =>
        rw [br_f, if_neg (by decide)]
        exact mail_tailR ws hws _ rfl
noncomputable abbrev E_MailR := callF X f_ref07_Mail encB1 (fun _ => True) fun l => pairII (mailB l)
theorem k_MailR {T : Tab} (hT : tabK T f_ref07_Mail = E_MailR) (l : List UInt8) : tabK T f_ref07_Mail [sv (bs l)] = some (pairII (mailB l)) := by
  rw [hT]
  exact callF_eq (enc := encB1) (P := fun _ => True) (f := fun l => pairII (mailB l)) (fun l _ => pcref07_Mail (tab_ok _ tbMr_ok) (t_MailR l)) (fun x y h => by rw [encB1_inj h]) trivial
end Go.Proofs.YtmiffikcnkgcpaaGreatDoor
