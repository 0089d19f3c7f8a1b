import Derived.Test.YtckbjhmiopjlkaaDoorUHas
import Derived.Test.YtckbjhmiopjlkaaDoorToldU3
set_option linter.unusedVariables false
set_option linter.unusedSimpArgs false
set_option maxRecDepth 100000
namespace Go.Proofs.YtckbjhmiopjlkaaDoor
/- Lists of numbers: rising ones, the same ones; the reference's Has. -/
open Go Go.Ab Go.RowKit

def ivs (l : List Int) : List AV := l.map fun n => iv n
def intOf : AV → Option Int
  | .v (.int .i64 n) => some n
  | _ => none
def intsOf : List AV → Option (List Int)
  | [] => some []
  | x :: xs => match intOf x with
    | some p => match intsOf xs with
      | some ps => some (p :: ps)
      | none => none
    | none => none
theorem intsOf_ivs : ∀ l, intsOf (ivs l) = some l
  | [] => rfl
  | x :: l => by
    show intsOf (iv x :: ivs l) = _
    simp only [intsOf, intOf, intsOf_ivs l]
theorem intOf_some {x : AV} {p : Int} (h : intOf x = some p) : x = iv p := by
  unfold intOf at h
  split at h
  · cases h; rfl
  · cases h
theorem ivs_of_ints : ∀ {rows : List AV} {l : List Int}, intsOf rows = some l → rows = ivs l
  | [], l, h => by cases h; rfl
  | x :: xs, l, h => by
    unfold intsOf at h
    split at h
    · rename_i p hp
      split at h
      · rename_i ps hps
        cases h
        rw [intOf_some hp, ivs_of_ints hps]
        rfl
      · cases h
    · cases h
theorem ivs_len (l : List Int) : (ivs l).length = l.length := by simp [ivs]
theorem ivs_get (l : List Int) (i : Nat) (h : i < l.length) : (ivs l)[i]? = some (iv l[i]) := by simp [ivs, h]

/-- One number of a rising row. -/
def okAt (l : List Int) (i : Nat) : Prop := 1 ≤ l.getD i 0 ∧ l.getD i 0 ≤ 4294967295 ∧ (0 < i → l.getD (i - 1) 0 < l.getD i 0)
theorem okAt_of {l : List Int} {i : Nat} (h1 : 1 ≤ l.getD i 0) (h2 : l.getD i 0 ≤ 4294967295) (h3 : 0 < i → l.getD (i - 1) 0 < l.getD i 0) : okAt l i := ⟨h1, h2, h3⟩
noncomputable def risB (l : List Int) : Bool := propB (∀ j, j < l.length → okAt l j)
noncomputable def inv_ri : Sref09_Rising_0 → Bool
  | .s0 b rows i => propB (∃ l, rows = ivs l ∧ 0 ≤ i ∧ i ≤ l.length ∧ l.length ≤ 1000000000)
theorem i_ri {b : Bool} {rows : List AV} {i : Int} (h : ∃ l, rows = ivs l ∧ 0 ≤ i ∧ i ≤ l.length ∧ l.length ≤ 1000000000) : inv_ri (.s0 b rows i) = true := propB_of h
noncomputable def out_ri : Sref09_Rising_0 → Oref09_Rising_0
  | .s0 b rows i => match propB (∀ j, i.toNat ≤ j → j < ((intsOf rows).getD []).length → okAt ((intsOf rows).getD []) j) with
    | true => .x1
    | false => .x0 false
theorem propB_false {p : Prop} (h : ¬ p) : propB p = false := by
  unfold propB; exact @decide_eq_false p (Classical.propDecidable p) h
theorem getD_at (l : List Int) (i : Nat) (h : i < l.length) : l.getD i 0 = l[i] := by simp [h]
theorem l_ri (K : PureK) : ∀ s o, lOf inv_ri out_ri s = some o → ∃ k, fuelRec (Rref09_Rising_0 K some) k s = some o :=
  fuel_of inv_ri out_ri (fun | .s0 _ rows i => (rows.length - i).toNat) (by
    rintro ⟨b, rows, i⟩ rec hi hrec
    obtain ⟨l, rfl, h0, h1, h2⟩ := of_propB hi
    simp only [Rref09_Rising_0, out_ri, intsOf_ivs, Option.getD_some]
    by_cases h : i < l.length
    · have hlt : i.toNat < l.length := by omega
      have hlt2 : i < ((ivs l).length : Nat) := by rw [ivs_len]; exact h
      rw [br_yesD hlt2, br_yesD h0, br_yesD hlt2, ivs_get _ _ hlt]
      simp only [optK_s, asInt_v]
      have key : (br (decide (l[i.toNat] < 1)) (some (bv true)) (br (decide (0 ≤ i)) (br (decide (i < (((ivs l).length : Nat) : Int))) (br (decide (l[i.toNat] > 4294967295)) (some (bv true))
            (br (decide (i > 0)) (br (decide (0 ≤ w64 (i - 1))) (br (decide (w64 (i - 1) < (((ivs l).length : Nat) : Int))) (optK (ivs l)[(w64 (i - 1)).toNat]? fun wv6 => Ab.asInt wv6 .i64 fun wn7 =>
              br (decide (0 ≤ i)) (br (decide (i < (((ivs l).length : Nat) : Int))) (some (bv (decide (wn7 ≥ l[i.toNat])))) none) none) none) none) (some (bv false)))) none) none))
          = some (bv (!propB (okAt l i.toNat))) := by
        have e0 := getD_at l i.toNat hlt
        by_cases a1 : l[i.toNat] < 1
        · rw [br_yesD a1, propB_false (fun h => by have := h.1; omega)]; rfl
        · rw [br_noD a1, br_yesD h0, br_yesD hlt2]
          by_cases a2 : l[i.toNat] > 4294967295
          · rw [br_yesD a2, propB_false (fun h => by have := h.2.1; omega)]; rfl
          · rw [br_noD a2]
            by_cases a3 : i > 0
            · have e1 := getD_at l (i.toNat - 1) (by omega)
              rw [br_yesD a3, w64_id (n := i - 1) (by omega) (by omega), br_yesD (by omega), br_yesD (by rw [ivs_len]; omega), show (i - 1).toNat = i.toNat - 1 by omega, ivs_get _ _ (by omega)]
              simp only [optK_s, asInt_v]
              rw [br_yesD h0, br_yesD hlt2]
              by_cases a4 : l[i.toNat - 1] ≥ l[i.toNat]
              · rw [decide_eq_true a4, propB_false (fun h => by have := h.2.2 (by omega); omega)]; rfl
              · rw [decide_eq_false a4, propB_of (okAt_of (l := l) (i := i.toNat) (by omega) (by omega) (fun _ => by omega))]; rfl
            · rw [br_noD a3, propB_of (okAt_of (l := l) (i := i.toNat) (by omega) (by omega) (fun _ => by omega))]; rfl
      rw [key]
      simp only [optK_s, asBool_v]
      by_cases hok : okAt l i.toNat
      · rw [propB_of hok]
        simp only [Bool.not_true, br_f]
        rw [w64_id (n := i + 1) (by omega) (by omega), hrec _ (i_ri ⟨l, rfl, by omega, by omega, h2⟩) (by show (((ivs l).length : Nat) - (i + 1) : Int).toNat < (((ivs l).length : Nat) - i : Int).toNat; omega)]
        simp only [out_ri, intsOf_ivs, Option.getD_some]
        by_cases hall : ∀ j, i.toNat ≤ j → j < l.length → okAt l j
        · rw [propB_of hall, propB_of (fun j hj => hall j (by omega) : ∀ j, (i + 1).toNat ≤ j → j < l.length → okAt l j)]
        · rw [propB_false hall, propB_false (fun h => hall fun j hj hl => by
            by_cases e : j = i.toNat
            · subst e; exact hok
            · exact h j (by omega) hl)]
      · rw [propB_false hok]
        simp only [Bool.not_false, br_t]
        rw [propB_false (fun h => hok (h i.toNat (Nat.le_refl _) hlt))]
    · have hlt2 : ¬ i < ((ivs l).length : Nat) := by rw [ivs_len]; exact h
      rw [br_noD hlt2, propB_of (fun j hj hl => by omega : ∀ j, i.toNat ≤ j → j < l.length → okAt l j)])
noncomputable def e_Ris : List AV → Option AV
  | [.lst 1 b rows] => match intsOf rows with
    | some l => br (decide (l.length ≤ 1000000000)) (some (bv (risB l))) none
    | none => none
  | _ => none
theorem e_Ris_ok (xs : List AV) (v : AV) (h : e_Ris xs = some v) : PureCall X f_ref09_Rising xs v := by
  unfold e_Ris at h
  split at h
  · rename_i b rows
    split at h
    · rename_i l hl
      obtain ⟨h1, h⟩ := br_yes h
      have h1 : l.length ≤ 1000000000 := of_decide_eq_true h1
      cases h
      obtain rfl := ivs_of_ints hl
      refine pcref09_Rising (tab_ok [] tab_nil) (l_ri _) ?_
      unfold Rref09_Rising
      rw [lOf_pos (i_ri ⟨l, rfl, by omega, by omega, h1⟩)]
      simp only [optK_s, out_ri, intsOf_ivs, Option.getD_some]
      unfold risB
      by_cases hall : ∀ j, j < l.length → okAt l j
      · rw [propB_of hall, propB_of (fun j _ hl => hall j hl : ∀ j, (0 : Int).toNat ≤ j → j < l.length → okAt l j)]; rfl
      · rw [propB_false hall, propB_false (fun h => hall fun j hl => h j (Nat.zero_le _) hl)]; rfl
    · cases h
  · cases h

/-- The same numbers. -/
noncomputable def inv_in : Sref09_Ints_0 → Bool
  | .s0 p ra q rb i => propB (∃ a b, ra = ivs a ∧ rb = ivs b ∧ a.length = b.length ∧ 0 ≤ i ∧ i ≤ a.length ∧ a.length ≤ 1000000000)
theorem i_in {p q : Bool} {ra rb : List AV} {i : Int} (h : ∃ a b, ra = ivs a ∧ rb = ivs b ∧ a.length = b.length ∧ 0 ≤ i ∧ i ≤ a.length ∧ a.length ≤ 1000000000) : inv_in (.s0 p ra q rb i) = true := propB_of h
def out_in : Sref09_Ints_0 → Oref09_Ints_0
  | .s0 p ra q rb i => match decide (((intsOf ra).getD []).drop i.toNat = ((intsOf rb).getD []).drop i.toNat) with
    | true => .x1
    | false => .x0 false
theorem l_in (K : PureK) : ∀ s o, lOf inv_in out_in s = some o → ∃ k, fuelRec (Rref09_Ints_0 K some) k s = some o :=
  fuel_of inv_in out_in (fun | .s0 _ ra _ _ i => (ra.length - i).toNat) (by
    rintro ⟨p, ra, q, rb, i⟩ rec hi hrec
    obtain ⟨a, b, rfl, rfl, hab, h0, h1, h2⟩ := of_propB hi
    simp only [Rref09_Ints_0, out_in, intsOf_ivs, Option.getD_some]
    by_cases h : i < a.length
    · have hlt : i.toNat < a.length := by omega
      have hltb : i.toNat < b.length := by omega
      have ha2 : i < ((ivs a).length : Nat) := by rw [ivs_len]; exact h
      have hb2 : i < ((ivs b).length : Nat) := by rw [ivs_len]; omega
      rw [br_yesD ha2, br_yesD h0, br_yesD ha2, ivs_get _ _ hlt]
      simp only [optK_s, asInt_v]
      rw [br_yesD h0, br_yesD hb2, ivs_get _ _ hltb]
      simp only [optK_s, asInt_v]
      rw [List.drop_eq_getElem_cons hlt, List.drop_eq_getElem_cons hltb]
      by_cases e : a[i.toNat] = b[i.toNat]
      · rw [br_neg (by simpa using e), w64_id (n := i + 1) (by omega) (by omega), hrec _ (i_in ⟨a, b, rfl, rfl, hab, by omega, by omega, h2⟩) (by show (((ivs a).length : Nat) - (i + 1) : Int).toNat < (((ivs a).length : Nat) - i : Int).toNat; omega)]
        simp only [out_in, intsOf_ivs, Option.getD_some, e, List.cons.injEq, true_and]
        rw [show (i + 1).toNat = i.toNat + 1 by omega]
      · rw [br_pos (by simpa using e)]
        simp only [List.cons.injEq, e, false_and, decide_false]
    · have ha2 : ¬ i < ((ivs a).length : Nat) := by rw [ivs_len]; exact h
      rw [br_noD ha2]
      have e1 : i.toNat = a.length := by omega
      rw [e1, List.drop_length, hab, List.drop_length]
      simp)
def e_Ints : List AV → Option AV
  | [.lst 1 _ ra, .lst 1 _ rb] => match intsOf ra, intsOf rb with
    | some a, some b => br (decide (a.length ≤ 1000000000)) (some (bv (decide (a = b)))) none
    | _, _ => none
  | _ => none
theorem e_Ints_ok (xs : List AV) (v : AV) (h : e_Ints xs = some v) : PureCall X f_ref09_Ints xs v := by
  unfold e_Ints at h
  split at h
  · rename_i p ra q rb
    split at h
    · rename_i a b ha hb
      obtain ⟨h1, h⟩ := br_yes h
      have h1 : a.length ≤ 1000000000 := of_decide_eq_true h1
      cases h
      obtain rfl := ivs_of_ints ha
      obtain rfl := ivs_of_ints hb
      refine pcref09_Ints (tab_ok [] tab_nil) (l_in _) ?_
      unfold Rref09_Ints
      rw [ivs_len, ivs_len]
      by_cases hl : a.length = b.length
      · rw [br_neg (by simp [hl]), lOf_pos (i_in ⟨a, b, rfl, rfl, hl, by omega, by omega, h1⟩)]
        simp only [optK_s, out_in, intsOf_ivs, Option.getD_some]
        rw [show (0 : Int).toNat = 0 from rfl, List.drop_zero, List.drop_zero]
        cases decide (a = b) <;> rfl
      · rw [br_pos (by simp; omega), decide_eq_false (fun e => hl (by rw [e]))]
    · cases h
  · cases h
end Go.Proofs.YtckbjhmiopjlkaaDoor
