import Derived.Test.YtckbjhmiopjlkaaDoorUNum
import Derived.Test.YtckbjhmiopjlkaaDoorToldU2
set_option linter.unusedVariables false
set_option linter.unusedSimpArgs false
set_option maxRecDepth 100000
namespace Go.Proofs.YtckbjhmiopjlkaaDoor
/- uids.Has. -/
open Go Go.Ab Go.RowKit

def realV (last e : Int) : Int := if e == 0 then last else e
def inV (last n : Int) (r : Int × Int) : Bool := decide (min (realV last r.1) (realV last r.2) ≤ n) && decide (n ≤ max (realV last r.1) (realV last r.2))
def hasV (l : List (Int × Int)) (n last : Int) : Bool := decide (n ≥ 1) && l.any (inV last n)

def pairOf : AV → Option (Int × Int)
  | .agg [.v (.int .i64 a), .v (.int .i64 b)] => some (a, b)
  | _ => none
def pairsOf : List AV → Option (List (Int × Int))
  | [] => some []
  | x :: xs => match pairOf x with
    | some p => match pairsOf xs with
      | some ps => some (p :: ps)
      | none => none
    | none => none
theorem pairsOf_rows : ∀ l, pairsOf (rowsOf l) = some l
  | [] => rfl
  | x :: l => by
    show pairsOf (.agg [iv x.1, iv x.2] :: rowsOf l) = _
    simp only [pairsOf, pairOf, pairsOf_rows l]
theorem pairOf_some {x : AV} {p : Int × Int} (h : pairOf x = some p) : x = .agg [iv p.1, iv p.2] := by
  unfold pairOf at h
  split at h
  · cases h; rfl
  · cases h
theorem rows_of_pairs : ∀ {rows : List AV} {l : List (Int × Int)}, pairsOf rows = some l → rows = rowsOf l
  | [], l, h => by cases h; rfl
  | x :: xs, l, h => by
    unfold pairsOf at h
    split at h
    · rename_i p hp
      split at h
      · rename_i ps hps
        cases h
        rw [pairOf_some hp, rows_of_pairs hps]
        rfl
      · cases h
    · cases h
theorem rowsOf_len (l : List (Int × Int)) : (rowsOf l).length = l.length := by simp [rowsOf]
theorem rowsOf_get (l : List (Int × Int)) (i : Nat) (h : i < l.length) : (rowsOf l)[i]? = some (.agg [iv l[i].1, iv l[i].2]) := by simp [rowsOf, h]

def e_H1 : List AV → Option AV
  | [.v (.int .i64 e), .pl (.v (.int .i64 last)) 0] => some (iv (realV last e))
  | _ => none
theorem e_H1_ok (xs : List AV) (v : AV) (h : e_H1 xs = some v) : PureCall X f_uids_Has_1 xs v := by
  unfold e_H1 at h
  split at h
  · rename_i e last
    cases h
    refine pcuids_Has_1__x (tab_ok [] tab_nil) ?_
    unfold Ruids_Has_1__x realV
    cases e == 0 <;> rfl
  · cases h
def tbH1 : Tab := [(f_uids_Has_1, e_H1)]
theorem tbH1_ok : TabOk X tbH1 := tab_cons e_H1_ok tab_nil
def e_H2 : List AV → Option AV
  | [.agg [.v (.int .i64 a), .v (.int .i64 b)], .pl (.fn (.func 24) [] [.pl (.v (.int .i64 last)) 0]) 0, .pl (.v (.int .i64 n)) 0] => some (bv (inV last n (a, b)))
  | _ => none
theorem e_H2_ok (xs : List AV) (v : AV) (h : e_H2 xs = some v) : PureCall X f_uids_Has_2 xs v := by
  unfold e_H2 at h
  split at h
  · rename_i a b last n
    cases h
    refine pcuids_Has_2__x (tab_ok _ tbH1_ok) ?_
    unfold Ruids_Has_2__x
    rw [show tabK tbH1 f_uids_Has_1 [iv a, (iv last).pl 0] = some (iv (realV last a)) from rfl, show tabK tbH1 f_uids_Has_1 [iv b, (iv last).pl 0] = some (iv (realV last b)) from rfl]
    simp only [optK_s, asInt_v, inV]
    generalize realV last a = p
    generalize realV last b = q
    rw [show (if q < p then q else p) = min p q by split <;> omega, show (if p < q then q else p) = max p q by split <;> omega]
    cases decide (min p q ≤ n) <;> rfl
  · cases h

/-- The first place, from i on. -/
def goIdx {α : Type} (p : α → Bool) : List α → Int → Option Int
  | [], _ => none
  | x :: xs, i => match p x with
    | true => some i
    | false => goIdx p xs (i + 1)
theorem goIdx_some {α : Type} {p : α → Bool} : ∀ {l : List α} {i k : Int}, 0 ≤ i → goIdx p l i = some k → 0 ≤ k ∧ l.any p = true
  | [], i, k, h, e => by cases e
  | x :: xs, i, k, h, e => by
    unfold goIdx at e
    split at e
    · rename_i hp; cases e; exact ⟨h, by simp [hp]⟩
    · have := goIdx_some (by omega) e
      exact ⟨this.1, by simp [this.2]⟩
theorem goIdx_none {α : Type} {p : α → Bool} : ∀ {l : List α} {i : Int}, goIdx p l i = none → l.any p = false
  | [], i, e => rfl
  | x :: xs, i, e => by
    unfold goIdx at e
    split at e
    · cases e
    · rename_i hp; simp [hp, goIdx_none e]

def tbH2 : Tab := [(f_uids_Has_2, e_H2)]
theorem tbH2_ok : TabOk X tbH2 := tab_cons e_H2_ok tab_nil
noncomputable def inv_if : Sslices_IndexFunc__has_0 → Bool
  | .s0 b rows last n t7 t8 => propB (∃ l, rows = rowsOf l ∧ t7 = l.length ∧ 0 ≤ t8 ∧ t8 ≤ t7 ∧ l.length ≤ 1000000000)
theorem i_if {b : Bool} {rows : List AV} {last n t7 t8 : Int} (h : ∃ l, rows = rowsOf l ∧ t7 = l.length ∧ 0 ≤ t8 ∧ t8 ≤ t7 ∧ l.length ≤ 1000000000) : inv_if (.s0 b rows last n t7 t8) = true := propB_of h
def out_if : Sslices_IndexFunc__has_0 → Oslices_IndexFunc__has_0
  | .s0 b rows last n t7 t8 => match goIdx (inV last n) (((pairsOf rows).getD []).drop t8.toNat) t8 with
    | some i => .x0 i
    | none => .x1
theorem l_if : ∀ s o, lOf inv_if out_if s = some o → ∃ k, fuelRec (Rslices_IndexFunc__has_0 (tabK tbH2) some) k s = some o :=
  fuel_of inv_if out_if (fun | .s0 _ _ _ _ t7 t8 => (t7 - t8).toNat) (by
    rintro ⟨b, rows, last, n, t7, t8⟩ rec hi hrec
    obtain ⟨l, rfl, rfl, h0, h1, h2⟩ := of_propB hi
    simp only [Rslices_IndexFunc__has_0, out_if, pairsOf_rows, Option.getD_some]
    by_cases h : t8 < l.length
    · have hlt : t8.toNat < l.length := by omega
      rw [br_yesD h, br_yesD h0, rowsOf_len, br_yesD h, rowsOf_get _ _ hlt]
      simp only [optK_s]
      rw [asAgg_v _ 2 rfl]
      simp only [List.getD_cons_zero, List.getD_cons_succ, asInt_v]
      rw [show tabK tbH2 f_uids_Has_2 [AV.agg [iv l[t8.toNat].1, iv l[t8.toNat].2], (AV.fn (Fn.func 24) [] [(iv last).pl 0]).pl 0, (iv n).pl 0] = some (bv (inV last n l[t8.toNat])) from rfl]
      simp only [optK_s, asBool_v]
      rw [List.drop_eq_getElem_cons hlt]
      simp only [goIdx]
      cases hp : inV last n l[t8.toNat] with
      | true => rfl
      | false =>
        rw [br_f, w64_id (n := t8 + 1) (by omega) (by omega), hrec _ (i_if ⟨l, rfl, rfl, by omega, by omega, h2⟩) (by show ((l.length : Int) - (t8 + 1)).toNat < ((l.length : Int) - t8).toNat; omega)]
        simp only [out_if, pairsOf_rows, Option.getD_some]
        rw [show (t8 + 1).toNat = t8.toNat + 1 by omega]
    · rw [br_noD h]
      have : t8.toNat = l.length := by omega
      rw [this, List.drop_length]
      rfl)
def idxV (l : List (Int × Int)) (n last : Int) : Int := (goIdx (inV last n) l 0).getD (-1)
def e_IF : List AV → Option AV
  | [.lst 2 b rows, .fn (.func 26) [] [.pl (.fn (.func 24) [] [.pl (.v (.int .i64 last)) 0]) 0, .pl (.v (.int .i64 n)) 0]] => match pairsOf rows with
    | some l => br (decide (l.length ≤ 1000000000)) (some (iv (idxV l n last))) none
    | none => none
  | _ => none
theorem e_IF_ok (xs : List AV) (v : AV) (h : e_IF xs = some v) : PureCall X f_slices_IndexFunc_api_Range_api_Range xs v := by
  unfold e_IF at h
  split at h
  · rename_i b rows last n
    split at h
    · rename_i l hl
      obtain ⟨h1, h⟩ := br_yes h
      have h1 : l.length ≤ 1000000000 := of_decide_eq_true h1
      cases h
      obtain rfl := rows_of_pairs hl
      refine pcslices_IndexFunc__has (tab_ok _ tbH2_ok) l_if ?_
      unfold Rslices_IndexFunc__has
      rw [lOf_pos (i_if ⟨l, rfl, by rw [rowsOf_len], by omega, by rw [rowsOf_len]; omega, h1⟩)]
      simp only [optK_s, out_if, pairsOf_rows, Option.getD_some]
      rw [show ((0 : Int)).toNat = 0 from rfl, List.drop_zero]
      unfold idxV
      cases goIdx (inV last n) l 0 <;> rfl
    · cases h
  · cases h
def tbIF : Tab := [(f_slices_IndexFunc_api_Range_api_Range, e_IF)]
theorem tbIF_ok : TabOk X tbIF := tab_cons e_IF_ok tab_nil
def e_CF : List AV → Option AV
  | [.lst 2 b rows, .fn (.func 26) [] [.pl (.fn (.func 24) [] [.pl (.v (.int .i64 last)) 0]) 0, .pl (.v (.int .i64 n)) 0]] => match pairsOf rows with
    | some l => br (decide (l.length ≤ 1000000000)) (some (bv (l.any (inV last n)))) none
    | none => none
  | _ => none
theorem e_CF_ok (xs : List AV) (v : AV) (h : e_CF xs = some v) : PureCall X f_slices_ContainsFunc_api_Range_api_Range xs v := by
  unfold e_CF at h
  split at h
  · rename_i b rows last n
    split at h
    · rename_i l hl
      obtain ⟨h1, h⟩ := br_yes h
      cases h
      obtain rfl := rows_of_pairs hl
      refine pcslices_ContainsFunc__has (tab_ok _ tbIF_ok) ?_
      unfold Rslices_ContainsFunc__has
      rw [show tabK tbIF f_slices_IndexFunc_api_Range_api_Range [AV.lst 2 b (rowsOf l), AV.fn (Fn.func 26) [] [(AV.fn (Fn.func 24) [] [(iv last).pl 0]).pl 0, (iv n).pl 0]] = some (iv (idxV l n last)) by
        show (match pairsOf (rowsOf l) with | some l => br (decide (l.length ≤ 1000000000)) (some (iv (idxV l n last))) none | none => none) = _
        rw [pairsOf_rows]
        exact br_pos h1]
      simp only [optK_s, asInt_v]
      unfold idxV
      cases hg : goIdx (inV last n) l 0 with
      | none => rw [goIdx_none hg]; rfl
      | some k =>
        obtain ⟨h2, h3⟩ := goIdx_some (by decide) hg
        rw [h3]
        show some (bv (decide (k ≥ 0))) = _
        rw [decide_eq_true h2]
    · cases h
  · cases h
def tbHas : Tab := [(f_slices_ContainsFunc_api_Range_api_Range, e_CF)]
theorem tbHas_ok : TabOk X tbHas := tab_cons e_CF_ok tab_nil
def e_Has : List AV → Option AV
  | [.lst 2 b rows, .v (.int .i64 n), .v (.int .i64 last)] => match pairsOf rows with
    | some l => br (decide (l.length ≤ 1000000000)) (some (bv (hasV l n last))) none
    | none => none
  | _ => none
theorem e_Has_ok (xs : List AV) (v : AV) (h : e_Has xs = some v) : PureCall X f_uids_Has xs v := by
  unfold e_Has at h
  split at h
  · rename_i b rows n last
    split at h
    · rename_i l hl
      obtain ⟨h1, h⟩ := br_yes h
      cases h
      obtain rfl := rows_of_pairs hl
      refine pcuids_Has (tab_ok _ tbHas_ok) ?_
      unfold Ruids_Has hasV
      by_cases hn : n ≥ 1
      · rw [br_yesD hn, decide_eq_true hn]
        rw [show tabK tbHas f_slices_ContainsFunc_api_Range_api_Range [AV.lst 2 b (rowsOf l), AV.fn (Fn.func 26) [] [(AV.fn (Fn.func 24) [] [(iv last).pl 0]).pl 0, (iv n).pl 0]] = some (bv (l.any (inV last n))) by
          show (match pairsOf (rowsOf l) with | some l => br (decide (l.length ≤ 1000000000)) (some (bv (l.any (inV last n)))) none | none => none) = _
          rw [pairsOf_rows]
          exact br_pos h1]
        rfl
      · rw [br_noD hn, decide_eq_false hn]
        rfl
    · cases h
  · cases h
theorem kHas {T : Tab} (hT : tabK T f_uids_Has = e_Has) {b : Bool} {l : List (Int × Int)} {n last : Int} (h : l.length ≤ 1000000000) : tabK T f_uids_Has [.lst 2 b (rowsOf l), iv n, iv last] = some (bv (hasV l n last)) := by
  rw [hT]
  show (match pairsOf (rowsOf l) with | some l => br (decide (l.length ≤ 1000000000)) (some (bv (hasV l n last))) none | none => none) = _
  rw [pairsOf_rows]
  exact br_yesD h
end Go.Proofs.YtckbjhmiopjlkaaDoor
