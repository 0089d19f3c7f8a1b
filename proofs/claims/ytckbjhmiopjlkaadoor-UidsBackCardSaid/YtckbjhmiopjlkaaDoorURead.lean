import Derived.Test.YtckbjhmiopjlkaaDoorUPrint
set_option linter.unusedVariables false
set_option linter.unusedSimpArgs false
set_option maxRecDepth 100000
namespace Go.Proofs.YtckbjhmiopjlkaaDoor
/- The reference's split, number, Parse. -/
open Go Go.Ab Go.RowKit

theorem len_ok16c {n : Nat} (h : n ≤ 100000) : (lenOk n 16 && lenOk n 1) = true := by
  unfold lenOk maxBytes
  simp only [Bool.and_eq_true]
  exact ⟨Nat.ble_eq_true_of_le (by omega), Nat.ble_eq_true_of_le (by omega)⟩
def glue (x : ByteArray) : List (List UInt8) → List ByteArray
  | [] => [x]
  | p :: ps => (x ++ bs p) :: ps.map bs
def u8 (c : Int) : UInt8 := UInt8.ofNat c.toNat
noncomputable def inv_sp : Sref09_split_0 → Bool
  | .s0 s c i o => propB (∃ l init x, s = bs l ∧ o = svs (init ++ [bs x]) ∧ ((u8 c).toNat : Int) = c ∧ 0 ≤ i ∧ i ≤ l.length ∧ l.length ≤ 2000 ∧ init.length ≤ i ∧ x.length ≤ i)
theorem i_sp {s : ByteArray} {c i : Int} {o : List AV} (h : ∃ l init x, s = bs l ∧ o = svs (init ++ [bs x]) ∧ ((u8 c).toNat : Int) = c ∧ 0 ≤ i ∧ i ≤ l.length ∧ l.length ≤ 2000 ∧ init.length ≤ i ∧ x.length ≤ i) : inv_sp (.s0 s c i o) = true := propB_of h
def out_sp : Sref09_split_0 → Oref09_split_0
  | .s0 s c i o => .x0 (svs (((strsOf o).getD []).dropLast ++ glue (((strsOf o).getD []).getLastD (bs [])) (splitL (u8 c) (s.data.toList.drop i.toNat))))
theorem out_sp_at (l : List UInt8) (c i : Int) (init : List ByteArray) (x : List UInt8) : out_sp (.s0 (bs l) c i (svs (init ++ [bs x]))) = .x0 (svs (init ++ glue (bs x) (splitL (u8 c) (l.drop i.toNat)))) := by
  simp only [out_sp]
  rw [strsOf_svs, bs_list]
  simp
theorem splitL_hit {c x : UInt8} (h : x = c) (xs : List UInt8) : splitL c (x :: xs) = [] :: splitL c xs := by
  subst h
  simp [splitL]
theorem splitL_miss {c x : UInt8} (h : ¬ x = c) {xs p : List UInt8} {ps : List (List UInt8)} (hp : splitL c xs = p :: ps) : splitL c (x :: xs) = (x :: p) :: ps := by
  unfold splitL
  rw [show (x == c) = false by simpa using h, hp]
theorem l_sp (K : PureK) : ∀ s o, lOf inv_sp out_sp s = some o → ∃ k, fuelRec (Rref09_split_0 K some) k s = some o :=
  fuel_of inv_sp out_sp (fun | .s0 s _ i _ => (s.size - i).toNat) (by
    rintro ⟨s, c, i, o⟩ rec hi hrec
    obtain ⟨l, init, x, rfl, rfl, hc, h0, h1, h2, h3, h4⟩ := of_propB hi
    rw [out_sp_at]
    simp only [Rref09_split_0]
    have hs : (((bs l).size : Nat) : Int) = l.length := by rw [bs_size]
    rw [hs]
    by_cases h : i < l.length
    · have hlt : i.toNat < l.length := by omega
      have hbt : bt (bs l) i.toNat = (l[i.toNat].toNat : Int) := by rw [bt_bs]; simp [hlt]
      rw [br_yesD h, br_yesD h0, br_yesD h, hbt, List.drop_eq_getElem_cons hlt]
      have hdec : ∀ {j : Nat}, (((bs l).size : Nat) - (i + 1) : Int).toNat < (((bs l).size : Nat) - i : Int).toNat := by intro _; rw [hs]; omega
      by_cases e : l[i.toNat] = u8 c
      · rw [br_pos (by rw [e]; simpa using hc), br_pos (by rw [svs_len]; exact len_ok16c (by simp; omega)), emp, w64_id (n := i + 1) (by omega) (by omega)]
        have e1 := hrec (.s0 (bs l) c (i + 1) (svs ((init ++ [bs x]) ++ [bs []]))) (i_sp ⟨l, _, [], rfl, rfl, hc, by omega, by omega, h2, by simp; omega, by simp; omega⟩) (hdec (j := 0))
        rw [out_sp_at, show (i + 1).toNat = i.toNat + 1 by omega] at e1
        rw [show svs (init ++ [bs x]) ++ [sv (bs [])] = svs ((init ++ [bs x]) ++ [bs []]) by simp [svs], e1]
        rw [splitL_hit e]
        cases hp : splitL (u8 c) (l.drop (i.toNat + 1)) with
        | nil => exact absurd hp (splitL_ne _ _)
        | cons p ps => simp [glue, bs_append]
      · have hne : ¬ ((l[i.toNat].toNat : Int)) = c := by
          intro h5
          apply e
          apply UInt8.toNat_inj.1
          omega
        have hl3 : (((svs (init ++ [bs x])).length : Nat) : Int) = init.length + 1 := by rw [svs_len]; simp
        have hgx : (svs (init ++ [bs x]))[0 + ((init.length : Int) + 1 - 1).toNat]? = some (sv (bs x)) := by
          rw [show 0 + ((init.length : Int) + 1 - 1).toNat = init.length by omega, svs_get _ _ (by simp)]
          simp
        rw [br_neg (by simpa using hne), hl3, w64_id (n := (init.length : Int) + 1 - 1) (by omega) (by omega), br_yesD (by omega), br_yesD (by omega), hgx]
        simp only [optK_s, asStr_v]
        rw [w64_id (n := i + 1) (by omega) (by omega), br_yesD h0, br_yesD (by omega), br_yesD (by omega), cut_both]
        have hcut : (l.take (i + 1).toNat).drop i.toNat = [l[i.toNat]] := by
          rw [show (i + 1).toNat = i.toNat + 1 by omega, List.take_succ_eq_append_getElem hlt, List.drop_append_of_le_length (by simp; omega)]
          simp
        rw [hcut, bs_append, bs_size, bs_size, br_pos (ble_ok (by simp; omega)), br_yesD (by omega), br_yesD (by omega)]
        have e1 := hrec (.s0 (bs l) c (i + 1) (svs (init ++ [bs (x ++ [l[i.toNat]])]))) (i_sp ⟨l, _, _, rfl, rfl, hc, by omega, by omega, h2, by omega, by simp; omega⟩) (hdec (j := 0))
        rw [out_sp_at, show (i + 1).toNat = i.toNat + 1 by omega] at e1
        rw [show (svs (init ++ [bs x])).set (0 + ((init.length : Int) + 1 - 1).toNat) (sv (bs (x ++ [l[i.toNat]]))) = svs (init ++ [bs (x ++ [l[i.toNat]])]) by
          rw [show 0 + ((init.length : Int) + 1 - 1).toNat = init.length by omega]
          simp [svs, List.set_append_right], e1]
        cases hp : splitL (u8 c) (l.drop (i.toNat + 1)) with
        | nil => exact absurd hp (splitL_ne _ _)
        | cons p ps => rw [splitL_miss e hp]; simp [glue, bs_append]
    · rw [br_noD h]
      have : i.toNat = l.length := by omega
      rw [this, List.drop_length]
      simp [splitL, glue, bs_append])
def e_split : List AV → Option AV
  | [.v (.string s), .v (.int .u8 c)] => br (decide (s.size ≤ 2000) && (decide (c = 44) || decide (c = 58))) (some (.lst 1 false (svs ((splitL (u8 c) s.data.toList).map bs)))) none
  | _ => none
theorem e_split_ok (xs : List AV) (v : AV) (h : e_split xs = some v) : PureCall X f_ref09_split xs v := by
  unfold e_split at h
  split at h
  · rename_i s c
    obtain ⟨h1, h⟩ := br_yes h
    simp only [Bool.and_eq_true, Bool.or_eq_true, decide_eq_true_eq] at h1
    obtain ⟨h1, h2⟩ := h1
    have h3 := Option.some.inj h
    subst h3
    obtain ⟨l, rfl⟩ := exists_bs s
    rw [bs_size] at h1
    rw [bs_list]
    refine pcref09_split (tab_ok [] tab_nil) (l_sp _) ?_
    unfold Rref09_split
    rw [emp, show [sv (bs [])] = svs ([] ++ [bs []]) from rfl, lOf_pos (i_sp ⟨l, [], [], rfl, rfl, by rcases h2 with rfl | rfl <;> rfl, Int.le_refl 0, by omega, h1, by simp, by simp⟩), out_sp_at]
    simp only [optK_s, Oref09_split_0.k, List.nil_append]
    rw [show (0 : Int).toNat = 0 from rfl, List.drop_zero]
    cases hp : splitL (u8 c) l with
    | nil => exact absurd hp (splitL_ne _ _)
    | cons p ps => simp [glue, bs_append]
  · cases h

theorem w8_idn {n : Int} (h1 : 0 ≤ n) (h2 : n < 256) : w8 n = n := by
  unfold w8 IntKind.wrap
  simp [IntKind.bits, IntKind.signed]
  omega
/-- Where the reference's number stops. -/
def goF : List UInt8 → Nat → Nat
  | [], n => n
  | c :: r, n => match dgB c && decide (n ≤ 4294967296) with
    | true => goF r (n * 10 + (c.toNat - 48))
    | false => n
noncomputable def inv_nu : Sref09_number_0 → Bool
  | .s0 s n i => propB (∃ l m, s = bs l ∧ n = ((m : Nat) : Int) ∧ 0 ≤ i ∧ i ≤ l.length ∧ l.length ≤ 2000 ∧ m ≤ 42949672970)
theorem i_nu {s : ByteArray} {n i : Int} (h : ∃ l m, s = bs l ∧ n = ((m : Nat) : Int) ∧ 0 ≤ i ∧ i ≤ l.length ∧ l.length ≤ 2000 ∧ m ≤ 42949672970) : inv_nu (.s0 s n i) = true := propB_of h
def out_nu : Sref09_number_0 → Oref09_number_0
  | .s0 s n i => match goN (s.data.toList.drop i.toNat) n.toNat with
    | some m => .x1 m
    | none => .x0 (-1) (goF (s.data.toList.drop i.toNat) n.toNat)
theorem l_nu (K : PureK) : ∀ s o, lOf inv_nu out_nu s = some o → ∃ k, fuelRec (Rref09_number_0 K some) k s = some o :=
  fuel_of inv_nu out_nu (fun | .s0 s _ i => (s.size - i).toNat) (by
    rintro ⟨s, n, i⟩ rec hi hrec
    obtain ⟨l, m, rfl, rfl, h0, h1, h2, h3⟩ := of_propB hi
    simp only [Rref09_number_0, out_nu, bs_list, Int.toNat_natCast]
    have hs : (((bs l).size : Nat) : Int) = l.length := by rw [bs_size]
    rw [hs]
    by_cases h : i < l.length
    · have hlt : i.toNat < l.length := by omega
      have hbt : bt (bs l) i.toNat = (l[i.toNat].toNat : Int) := by rw [bt_bs]; simp [hlt]
      have h8 : l[i.toNat].toNat < 256 := l[i.toNat].toNat_lt
      simp only [br_yesD h, br_yesD h0, hbt]
      rw [List.drop_eq_getElem_cons hlt]
      unfold goN goF
      have key : br (decide ((l[i.toNat].toNat : Int) < 48)) (some (bv true)) (br (decide ((l[i.toNat].toNat : Int) > 57)) (some (bv true)) (some (bv (decide ((m : Int) > 4294967296))))) = some (bv (!(dgB l[i.toNat] && decide (m ≤ 4294967296)))) := by
        unfold dgB
        by_cases a1 : (l[i.toNat].toNat : Int) < 48
        · rw [br_yesD a1, decide_eq_false (show ¬ 48 ≤ l[i.toNat].toNat by omega)]; rfl
        · rw [br_noD a1, decide_eq_true (show 48 ≤ l[i.toNat].toNat by omega)]
          by_cases a2 : (l[i.toNat].toNat : Int) > 57
          · rw [br_yesD a2, decide_eq_false (show ¬ l[i.toNat].toNat ≤ 57 by omega)]; rfl
          · rw [br_noD a2, decide_eq_true (show l[i.toNat].toNat ≤ 57 by omega)]
            by_cases a3 : (m : Int) > 4294967296
            · rw [decide_eq_true a3, decide_eq_false (show ¬ m ≤ 4294967296 by omega)]; rfl
            · rw [decide_eq_false a3, decide_eq_true (show m ≤ 4294967296 by omega)]; rfl
      rw [key]
      simp only [optK_s, asBool_v]
      cases hb : dgB l[i.toNat] && decide (m ≤ 4294967296) with
      | false => rfl
      | true =>
        simp only [Bool.and_eq_true, decide_eq_true_eq] at hb
        obtain ⟨hb, hm⟩ := hb
        have hd := dgB_iff.1 hb
        rw [Bool.not_true, br_f, w64_id (n := (m : Int) * 10) (by omega) (by omega)]
        rw [show w8 ((l[i.toNat].toNat : Int) - 48) = ((l[i.toNat].toNat - 48 : Nat) : Int) by rw [w8_idn (by omega) (by omega)]; omega]
        rw [w64_id (n := ((l[i.toNat].toNat - 48 : Nat) : Int)) (by omega) (by omega), show (m : Int) * 10 + ((l[i.toNat].toNat - 48 : Nat) : Int) = ((m * 10 + (l[i.toNat].toNat - 48) : Nat) : Int) by omega,
          w64_id (n := ((m * 10 + (l[i.toNat].toNat - 48) : Nat) : Int)) (by omega) (by omega), w64_id (n := i + 1) (by omega) (by omega),
          hrec _ (i_nu ⟨l, _, rfl, rfl, by omega, by omega, h2, by omega⟩) (by show (((bs l).size : Nat) - (i + 1) : Int).toNat < (((bs l).size : Nat) - i : Int).toNat; rw [hs]; omega)]
        simp only [out_nu, bs_list, Int.toNat_natCast]
        rw [show (i + 1).toNat = i.toNat + 1 by omega]
    · rw [br_noD h]
      have : i.toNat = l.length := by omega
      rw [this, List.drop_length]
      rfl)
def e_rNum : List AV → Option AV
  | [.v (.string s)] => br (decide (s.size ≤ 2000)) (some (iv (rnum s.data.toList))) none
  | _ => none
theorem e_rNum_ok (xs : List AV) (v : AV) (h : e_rNum xs = some v) : PureCall X f_ref09_number xs v := by
  unfold e_rNum at h
  split at h
  · rename_i s
    obtain ⟨h1, h⟩ := br_yes h
    have h1 : s.size ≤ 2000 := of_decide_eq_true h1
    have h3 := Option.some.inj h
    subst h3
    obtain ⟨l, rfl⟩ := exists_bs s
    rw [bs_size] at h1
    rw [bs_list]
    refine pcref09_number (tab_ok [] tab_nil) (l_nu _) ?_
    unfold Rref09_number rnum
    rw [show ({ data := #[42] } : ByteArray) = bs [42] from rfl, emp, strEq_bs, strEq_bs]
    by_cases h42 : l = [42]
    · rw [br_pos (by simpa using h42), if_pos h42]
    · rw [br_neg (by simpa using h42), if_neg h42]
      cases l with
      | nil => rfl
      | cons c r =>
        rw [br_neg (by simp), br_yesD (by rw [bs_size]; simp)]
        have hbt : bt (bs (c :: r)) 0 = (c.toNat : Int) := by rw [bt_bs]; rfl
        rw [hbt]
        simp only [optK_s, asBool_v]
        by_cases h48 : c = 48
        · subst h48; rfl
        · have hn : ¬ (c.toNat : Int) = 48 := fun e => h48 (UInt8.toNat_inj.1 (by simpa using (by omega : c.toNat = 48)))
          rw [br_neg (by simpa using hn), if_neg (by simp [h48]), lOf_pos (i_nu (n := 0) ⟨c :: r, 0, rfl, rfl, Int.le_refl 0, by omega, h1, by omega⟩)]
          simp only [optK_s, out_nu, bs_list]
          rw [show (0 : Int).toNat = 0 from rfl, List.drop_zero]
          cases hg : goN (c :: r) 0 with
          | none => rfl
          | some m =>
            simp only [Oref09_number_0.k]
            by_cases hm : m > 4294967295
            · rw [br_yesD (by omega), if_pos hm]
            · rw [br_noD (by omega), if_neg hm]
  · cases h

/-- The reference's Parse: the parts, one by one. -/
def q0 (p : List UInt8) : Int := rnum ((splitL 58 p).getD 0 [])
def q1 (p : List UInt8) : Int := rnum ((splitL 58 p).getD ((splitL 58 p).length - 1) [])
def badP (p : List UInt8) : Bool := decide (q0 p < 0) || (decide (q1 p < 0) || (decide ((splitL 58 p).length = 2) && decide (q0 p = q1 p)))
theorem rstep_bad (p : List UInt8) : rstep p = match decide ((splitL 58 p).length > 2) with
    | true => none
    | false => match badP p with
      | true => none
      | false => some (q0 p, q1 p) := by
  unfold rstep badP q0 q1
  by_cases h : (splitL 58 p).length > 2
  · rw [if_pos h, decide_eq_true h]
  · rw [if_neg h, decide_eq_false h]
    simp only
    split
    · rename_i hc
      rw [show (decide (rnum ((splitL 58 p).getD 0 []) < 0) || (decide (rnum ((splitL 58 p).getD ((splitL 58 p).length - 1) []) < 0) || (decide ((splitL 58 p).length = 2) && decide (rnum ((splitL 58 p).getD 0 []) = rnum ((splitL 58 p).getD ((splitL 58 p).length - 1) []))))) = true by simpa using hc]
    · rename_i hc
      rw [show (decide (rnum ((splitL 58 p).getD 0 []) < 0) || (decide (rnum ((splitL 58 p).getD ((splitL 58 p).length - 1) []) < 0) || (decide ((splitL 58 p).length = 2) && decide (rnum ((splitL 58 p).getD 0 []) = rnum ((splitL 58 p).getD ((splitL 58 p).length - 1) []))))) = false by
        simp only [← Bool.not_eq_true]
        intro h2
        apply hc
        simpa using h2]
def run1 (a0 b0 : Int) : List (List UInt8) → List (Int × Int) → Oref09_Parse_0
  | [], acc => .x5 a0 b0 (rowsOf acc)
  | p :: ps, acc => match decide ((splitL 58 p).length > 2) with
    | true => .x3 3 a0 b0 (rowsOf acc)
    | false => match badP p with
      | true => .x4 3 a0 b0 (rowsOf acc) (q0 p) (q1 p)
      | false => run1 a0 b0 ps (acc ++ [(q0 p, q1 p)])
def run0 : List (List UInt8) → Oref09_Parse_0
  | [] => .x2
  | p :: ps => match decide ((splitL 58 p).length > 2) with
    | true => .x0 3
    | false => match badP p with
      | true => .x1 3 (q0 p) (q1 p)
      | false => run1 (q0 p) (q1 p) ps [(q0 p, q1 p)]
noncomputable def tbRd : Tab := [(f_ref09_split, e_split), (f_ref09_number, e_rNum)]
theorem tbRd_ok : TabOk X tbRd := tab_cons e_split_ok (tab_cons e_rNum_ok tab_nil)
theorem kSplit {T : Tab} (hT : tabK T f_ref09_split = e_split) {l : List UInt8} {c : Int} (h : l.length ≤ 2000) (hc : c = 44 ∨ c = 58) : tabK T f_ref09_split [sv (bs l), uv c] = some (.lst 1 false (svs ((splitL (u8 c) l).map bs))) := by
  rw [hT]
  show br (decide ((bs l).size ≤ 2000) && (decide (c = 44) || decide (c = 58))) (some (AV.lst 1 false (svs ((splitL (u8 c) (bs l).data.toList).map bs)))) none = _
  rw [bs_list]
  exact br_pos (by rw [bs_size, decide_eq_true h]; rcases hc with rfl | rfl <;> rfl)
theorem kNum {T : Tab} (hT : tabK T f_ref09_number = e_rNum) {l : List UInt8} (h : l.length ≤ 2000) : tabK T f_ref09_number [sv (bs l)] = some (iv (rnum l)) := by
  rw [hT]
  show br (decide ((bs l).size ≤ 2000)) (some (iv (rnum (bs l).data.toList))) none = _
  rw [bs_list]
  exact br_pos (by rw [bs_size, decide_eq_true h])
theorem asLst_2 {β : Type} (es : Nat) (b : Bool) (rows : List AV) (k : Bool → List AV → Option β) : Ab.asLst (.lst es b rows) es k = k b rows := by
  unfold Ab.asLst
  simp
/-- One round, whatever is done with what comes out. -/
theorem partKey {β : Type} (p : List UInt8) (hp : p.length ≤ 2000) (A : Option β) (B C : Int → Int → Option β) :
    (optK (tabK tbRd f_ref09_split [sv (bs p), uv 58]) fun wv3 =>
      Ab.asLst wv3 1 fun wb4 wr4 =>
      br (decide (((wr4.length : Nat) : Int) > 2)) A
        (br (decide (0 < ((wr4.length : Nat) : Int)))
          (optK wr4[0]? fun wv5 =>
          Ab.asStr wv5 fun ws6 =>
          optK (tabK tbRd f_ref09_number [sv ws6]) fun wv7 =>
          Ab.asInt wv7 .i64 fun wn8 =>
          br (decide (0 ≤ w64 (((wr4.length : Nat) : Int) - 1)))
            (br (decide (w64 (((wr4.length : Nat) : Int) - 1) < ((wr4.length : Nat) : Int)))
              (optK (wr4[(w64 (((wr4.length : Nat) : Int) - 1)).toNat]?) fun wv9 =>
              Ab.asStr wv9 fun ws10 =>
              optK (tabK tbRd f_ref09_number [sv ws10]) fun wv11 =>
              Ab.asInt wv11 .i64 fun wn12 =>
              optK (br (decide (wn8 < 0))
                  (some (bv true))
                  (br (decide (wn12 < 0))
                    (some (bv true))
                    (br (((wr4.length : Nat) : Int) == 2)
                      (some (bv (wn8 == wn12)))
                      (some (bv false))))) fun wv13 =>
              Ab.asBool wv13 fun wb14 =>
              br wb14 (B wn8 wn12) (C wn8 wn12))
              (none))
            (none))
          (none))) = match decide ((splitL 58 p).length > 2) with
      | true => A
      | false => match badP p with
        | true => B (q0 p) (q1 p)
        | false => C (q0 p) (q1 p) := by
  rw [kSplit (T := tbRd) rfl hp (.inr rfl), show u8 58 = 58 from rfl]
  simp only [optK_s, asLst_2]
  have hlen : (((svs ((splitL 58 p).map bs)).length : Nat) : Int) = (splitL 58 p).length := by rw [svs_len, List.length_map]
  have hpos : 0 < (splitL 58 p).length := List.length_pos_iff.2 (splitL_ne 58 p)
  have hle := splitL_length 58 p
  have hcnt := List.count_le_length (a := (58 : UInt8)) (l := p)
  rw [hlen]
  by_cases h : (splitL 58 p).length > 2
  · rw [br_yesD (by omega), decide_eq_true h]
  · rw [br_noD (by omega), decide_eq_false h, br_yesD (by omega)]
    have get : ∀ (j : Nat), j < (splitL 58 p).length → (svs ((splitL 58 p).map bs))[j]? = some (sv (bs ((splitL 58 p).getD j []))) := by
      intro j hj
      rw [svs_get _ _ (by rw [List.length_map]; exact hj)]
      simp [hj]
    have len : ∀ (j : Nat), j < (splitL 58 p).length → ((splitL 58 p).getD j []).length ≤ 2000 := by
      intro j hj
      refine Nat.le_trans (splitL_sub (c := 58) (p := p) ?_) hp
      rw [show (splitL 58 p).getD j [] = (splitL 58 p)[j] by simp [hj]]
      exact List.getElem_mem hj
    rw [get 0 hpos]
    simp only [optK_s, asStr_v]
    rw [kNum (T := tbRd) rfl (len 0 hpos)]
    simp only [optK_s, asInt_v]
    rw [w64_id (n := ((splitL 58 p).length : Int) - 1) (by omega) (by omega), br_yesD (by omega), br_yesD (by omega), show (((splitL 58 p).length : Int) - 1).toNat = (splitL 58 p).length - 1 by omega, get _ (by omega)]
    simp only [optK_s, asStr_v]
    rw [kNum (T := tbRd) rfl (len _ (by omega))]
    simp only [optK_s, asInt_v]
    have key : br (decide (rnum ((splitL 58 p).getD 0 []) < 0)) (some (bv true)) (br (decide (rnum ((splitL 58 p).getD ((splitL 58 p).length - 1) []) < 0)) (some (bv true)) (br (((splitL 58 p).length : Int) == 2) (some (bv (rnum ((splitL 58 p).getD 0 []) == rnum ((splitL 58 p).getD ((splitL 58 p).length - 1) [])))) (some (bv false)))) = some (bv (badP p)) := by
      unfold badP q0 q1
      by_cases a1 : rnum ((splitL 58 p).getD 0 []) < 0
      · rw [br_yesD a1, decide_eq_true a1]; rfl
      · rw [br_noD a1, decide_eq_false a1]
        by_cases a2 : rnum ((splitL 58 p).getD ((splitL 58 p).length - 1) []) < 0
        · rw [br_yesD a2, decide_eq_true a2]; rfl
        · rw [br_noD a2, decide_eq_false a2]
          by_cases a3 : (splitL 58 p).length = 2
          · rw [br_pos (by simp; omega), decide_eq_true a3]; rfl
          · rw [br_neg (by simp; omega), decide_eq_false a3]; rfl
    rw [key]
    simp only [optK_s, asBool_v]
    unfold q0 q1
    cases badP p <;> rfl
noncomputable def inv_rd : Sref09_Parse_0 → Bool
  | .s0 b rows i => propB (∃ ps : List (List UInt8), rows = svs (ps.map bs) ∧ 0 ≤ i ∧ i ≤ ps.length ∧ ps.length ≤ 2001 ∧ ∀ p ∈ ps, p.length ≤ 2000)
  | .s1 b rows i a0 b0 o => propB (∃ (ps : List (List UInt8)) (acc : List (Int × Int)), rows = svs (ps.map bs) ∧ o = rowsOf acc ∧ acc.length ≤ i ∧ 0 ≤ i ∧ i ≤ ps.length ∧ ps.length ≤ 2001 ∧ ∀ p ∈ ps, p.length ≤ 2000)
theorem i_rd0 {b : Bool} {rows : List AV} {i : Int} (h : ∃ ps : List (List UInt8), rows = svs (ps.map bs) ∧ 0 ≤ i ∧ i ≤ ps.length ∧ ps.length ≤ 2001 ∧ ∀ p ∈ ps, p.length ≤ 2000) : inv_rd (.s0 b rows i) = true := propB_of h
theorem i_rd1 {b : Bool} {rows o : List AV} {i a0 b0 : Int} (h : ∃ (ps : List (List UInt8)) (acc : List (Int × Int)), rows = svs (ps.map bs) ∧ o = rowsOf acc ∧ acc.length ≤ i ∧ 0 ≤ i ∧ i ≤ ps.length ∧ ps.length ≤ 2001 ∧ ∀ p ∈ ps, p.length ≤ 2000) : inv_rd (.s1 b rows i a0 b0 o) = true := propB_of h
def textsOf (rows : List AV) : List (List UInt8) := ((strsOf rows).getD []).map (·.data.toList)
theorem textsOf_svs (ps : List (List UInt8)) : textsOf (svs (ps.map bs)) = ps := by
  unfold textsOf
  rw [strsOf_svs, Option.getD_some, List.map_map]
  refine (List.map_congr_left fun p _ => ?_).trans (List.map_id ps)
  exact bs_list p
def out_rd : Sref09_Parse_0 → Oref09_Parse_0
  | .s0 b rows i => run0 ((textsOf rows).drop i.toNat)
  | .s1 b rows i a0 b0 o => run1 a0 b0 ((textsOf rows).drop i.toNat) ((pairsOf o).getD [])
theorem l_rd : ∀ s o, lOf inv_rd out_rd s = some o → ∃ k, fuelRec (Rref09_Parse_0 (tabK tbRd) some) k s = some o :=
  fuel_of inv_rd out_rd (fun | .s0 _ rows i => (rows.length - i).toNat | .s1 _ rows i _ _ _ => (rows.length - i).toNat) (by
    intro s rec hi hrec
    cases s with
    | s0 b rows i =>
      obtain ⟨ps, rfl, h0, h1, h2, h3⟩ := of_propB hi
      have hl : (((svs (ps.map bs)).length : Nat) : Int) = ps.length := by rw [svs_len, List.length_map]
      simp only [Rref09_Parse_0, out_rd, textsOf_svs]
      rw [hl]
      by_cases h : i < ps.length
      · have hlt : i.toNat < ps.length := by omega
        have hg : (svs (ps.map bs))[i.toNat]? = some (sv (bs ps[i.toNat])) := by rw [svs_get _ _ (by rw [List.length_map]; exact hlt)]; simp
        rw [br_yesD h, br_yesD h0, br_yesD h, hg]
        simp only [optK_s, asStr_v]
        rw [partKey ps[i.toNat] (h3 _ (List.getElem_mem hlt)), List.drop_eq_getElem_cons hlt]
        simp only [run0]
        cases decide ((splitL 58 ps[i.toNat]).length > 2) with
        | true => rfl
        | false =>
          cases badP ps[i.toNat] with
          | true => rfl
          | false =>
            have e := hrec (.s1 b (svs (ps.map bs)) (i + 1) (q0 ps[i.toNat]) (q1 ps[i.toNat]) (rowsOf [(q0 ps[i.toNat], q1 ps[i.toNat])])) (i_rd1 ⟨ps, _, rfl, rfl, by simp; omega, by omega, by omega, h2, h3⟩) (by show (((svs (ps.map bs)).length : Nat) - (i + 1) : Int).toNat < (((svs (ps.map bs)).length : Nat) - i : Int).toNat; rw [hl]; omega)
            simp only [out_rd, textsOf_svs, pairsOf_rows, Option.getD_some] at e
            rw [show (i + 1).toNat = i.toNat + 1 by omega] at e
            rw [w64_id (n := i + 1) (by omega) (by omega)]
            exact e
      · rw [br_noD h]
        have : i.toNat = ps.length := by omega
        rw [this, List.drop_length]
        rfl
    | s1 b rows i a0 b0 o =>
      obtain ⟨ps, acc, rfl, rfl, ha, h0, h1, h2, h3⟩ := of_propB hi
      have hl : (((svs (ps.map bs)).length : Nat) : Int) = ps.length := by rw [svs_len, List.length_map]
      simp only [Rref09_Parse_0, out_rd, textsOf_svs, pairsOf_rows, Option.getD_some]
      rw [hl]
      by_cases h : i < ps.length
      · have hlt : i.toNat < ps.length := by omega
        have hg : (svs (ps.map bs))[i.toNat]? = some (sv (bs ps[i.toNat])) := by rw [svs_get _ _ (by rw [List.length_map]; exact hlt)]; simp
        rw [br_yesD h, br_yesD h0, br_yesD h, hg]
        simp only [optK_s, asStr_v]
        rw [partKey ps[i.toNat] (h3 _ (List.getElem_mem hlt)), List.drop_eq_getElem_cons hlt]
        simp only [run1]
        cases decide ((splitL 58 ps[i.toNat]).length > 2) with
        | true => rfl
        | false =>
          cases badP ps[i.toNat] with
          | true => rfl
          | false =>
            simp only
            rw [br_pos (len_ok16c (by rw [rowsOf_len]; simp; omega))]
            have e := hrec (.s1 b (svs (ps.map bs)) (i + 1) a0 b0 (rowsOf (acc ++ [(q0 ps[i.toNat], q1 ps[i.toNat])]))) (i_rd1 ⟨ps, _, rfl, rfl, by simp; omega, by omega, by omega, h2, h3⟩) (by show (((svs (ps.map bs)).length : Nat) - (i + 1) : Int).toNat < (((svs (ps.map bs)).length : Nat) - i : Int).toNat; rw [hl]; omega)
            simp only [out_rd, textsOf_svs, pairsOf_rows, Option.getD_some] at e
            rw [show (i + 1).toNat = i.toNat + 1 by omega] at e
            rw [w64_id (n := i + 1) (by omega) (by omega), show rowsOf acc ++ [AV.agg [iv (q0 ps[i.toNat]), iv (q1 ps[i.toNat])]] = rowsOf (acc ++ [(q0 ps[i.toNat], q1 ps[i.toNat])]) by simp [rowsOf]]
            exact e
      · rw [br_noD h]
        have : i.toNat = ps.length := by omega
        rw [this, List.drop_length]
        rfl)
/-- What comes behind the loop. -/
def endP (o : Oref09_Parse_0) : Option AV := Oref09_Parse_0.k o
  (fun (t3 : Int) => some (AV.tup [AV.lst 2 true [], iv t3]))
  (fun (t3 : Int) (_ : Int) (_ : Int) => some (AV.tup [AV.lst 2 true [], iv t3]))
  (some (AV.tup [AV.lst 2 true [], iv 0]))
  (fun (t3 : Int) (_ : Int) (_ : Int) (_ : List AV) => some (AV.tup [AV.lst 2 true [], iv t3]))
  (fun (t3 : Int) (_ : Int) (_ : Int) (_ : List AV) (_ : Int) (_ : Int) => some (AV.tup [AV.lst 2 true [], iv t3]))
  (fun (_ : Int) (_ : Int) (o1 : List AV) => br (decide (((o1.length : Nat) : Int) > 60))
    (some (AV.tup [AV.lst 2 true [], iv 4]))
    (some (AV.tup [AV.lst 2 false o1, iv 0])))
def endG (r : Option (List (Int × Int))) : AV := match r with
  | none => .tup [.lst 2 true [], iv 3]
  | some acc => if acc.length > 60 then .tup [.lst 2 true [], iv 4] else .tup [.lst 2 false (rowsOf acc), iv 0]
theorem run1_go (a0 b0 : Int) : ∀ (ps : List (List UInt8)) (acc : List (Int × Int)), endP (run1 a0 b0 ps acc) = some (endG (goP numV ps acc))
  | [], acc => by
    unfold run1 endP goP endG
    simp only [Oref09_Parse_0.k]
    rw [rowsOf_len]
    by_cases h : acc.length > 60
    · rw [br_yesD (by omega), if_pos h]
    · rw [br_noD (by omega), if_neg h]
  | p :: ps, acc => by
    unfold run1 goP
    rw [← rstep_eq, rstep_bad]
    cases decide ((splitL 58 p).length > 2) with
    | true => rfl
    | false =>
      cases badP p with
      | true => rfl
      | false => exact run1_go a0 b0 ps _
theorem run0_go (p : List UInt8) (ps : List (List UInt8)) : endP (run0 (p :: ps)) = some (endG (goP numV (p :: ps) [])) := by
  simp only [run0, goP]
  rw [← rstep_eq, rstep_bad]
  cases decide ((splitL 58 p).length > 2) with
  | true => rfl
  | false =>
    cases badP p with
    | true => rfl
    | false => exact run1_go _ _ ps _
def e_Parse : List AV → Option AV
  | [.v (.string s)] => br (decide (s.size ≤ 5000)) (some (parseV numV s.data.toList)) none
  | _ => none
theorem e_Parse_ok (xs : List AV) (v : AV) (h : e_Parse xs = some v) : PureCall X f_uids_Parse xs v := by
  unfold e_Parse at h
  split at h
  · rename_i s
    obtain ⟨_, h⟩ := br_yes h
    have h3 := Option.some.inj h
    subst h3
    obtain ⟨l, rfl⟩ := exists_bs s
    rw [bs_list]
    exact pc_Parse l
  · cases h
theorem e_rParse_ok (xs : List AV) (v : AV) (h : e_Parse xs = some v) : PureCall X f_ref09_Parse xs v := by
  unfold e_Parse at h
  split at h
  · rename_i s
    obtain ⟨hs, h⟩ := br_yes h
    have hs : s.size ≤ 5000 := of_decide_eq_true hs
    have h3 := Option.some.inj h
    subst h3
    obtain ⟨l, rfl⟩ := exists_bs s
    rw [bs_list]
    rw [bs_size] at hs
    refine pcref09_Parse (tab_ok _ tbRd_ok) l_rd ?_
    unfold Rref09_Parse parseV
    rw [bs_size]
    by_cases h2 : l.length > 2000
    · rw [br_yesD (by omega), if_pos h2]
    · have hle := splitL_length 44 l
      have hcnt := List.count_le_length (a := (44 : UInt8)) (l := l)
      rw [br_noD (by omega), if_neg h2, kSplit (T := tbRd) rfl (by omega) (.inl rfl), show u8 44 = 44 from rfl]
      simp only [optK_s, asLst_2]
      rw [lOf_pos (i_rd0 ⟨splitL 44 l, rfl, Int.le_refl 0, by omega, by omega, fun p hp => Nat.le_trans (splitL_sub hp) (by omega)⟩)]
      simp only [optK_s, out_rd, textsOf_svs]
      rw [show (0 : Int).toNat = 0 from rfl, List.drop_zero]
      cases hsp : splitL 44 l with
      | nil => exact absurd hsp (splitL_ne 44 l)
      | cons p ps => exact run0_go p ps
  · cases h
end Go.Proofs.YtckbjhmiopjlkaaDoor
