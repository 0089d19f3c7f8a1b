import Derived.Test.YtckbjhmiopjlkaaDoorUInts
import Derived.Test.YtckbjhmiopjlkaaDoorToldU4
set_option linter.unusedVariables false
set_option linter.unusedSimpArgs false
set_option maxRecDepth 100000
namespace Go.Proofs.YtckbjhmiopjlkaaDoor
/- Sets of numbers, picked numbers: what uids.Of and Pick, and the reference's, answer. -/
open Go Go.Ab Go.RowKit

def lastOf (ns : List Int) : Int := ns.getD (ns.length - 1) 0
def pickV (l : List (Int × Int)) (ns : List Int) : List Int := ns.filter fun n => hasV l n (lastOf ns)
theorem lastOf_get (ns : List Int) (h : 0 < ns.length) : (ivs ns)[ns.length - 1]? = some (iv (lastOf ns)) := by
  rw [ivs_get _ _ (by omega)]
  unfold lastOf
  rw [getD_at _ _ (by omega)]
theorem ivs_app (a b : List Int) : ivs a ++ ivs b = ivs (a ++ b) := by simp [ivs]
theorem ivs_set (a : List Int) (i : Nat) (n : Int) : (ivs a).set i (iv n) = ivs (a.set i n) := by simp [ivs, List.map_set]
theorem ivs_take (a : List Int) (i : Nat) : (ivs a).take i = ivs (a.take i) := by simp [ivs, List.map_take]
theorem len_ok8 {n : Nat} (h : n ≤ 1000) : (lenOk n 8 && lenOk n 1) = true := by
  unfold lenOk maxBytes
  simp only [Bool.and_eq_true]
  exact ⟨Nat.ble_eq_true_of_le (by omega), Nat.ble_eq_true_of_le (by omega)⟩

/-- DeleteFunc's second loop. -/
def delO (p : Int → Bool) : List Int → Nat → List Int → List Int
  | os, _, [] => os
  | os, i, x :: r => match p x with
    | true => delO p (os.set i x) (i + 1) r
    | false => delO p os i r
theorem delO_len (p : Int → Bool) : ∀ (r : List Int) (os : List Int) (i : Nat), (delO p os i r).length = os.length
  | [], os, i => rfl
  | x :: r, os, i => by
    unfold delO
    split
    · rw [delO_len p r]; simp
    · rw [delO_len p r]
theorem delO_take (p : Int → Bool) : ∀ (r : List Int) (os : List Int) (i : Nat), i + r.length ≤ os.length → (delO p os i r).take (i + (r.filter p).length) = os.take i ++ r.filter p
  | [], os, i, h => by simp [delO]
  | x :: r, os, i, h => by
    simp only [List.length_cons] at h
    unfold delO
    cases hp : p x with
    | true =>
      simp only [List.filter_cons, hp, if_true, List.length_cons]
      have := delO_take p r (os.set i x) (i + 1) (by simp; omega)
      rw [show i + ((r.filter p).length + 1) = i + 1 + (r.filter p).length by omega, this, List.take_succ_eq_append_getElem (by simp; omega), List.take_set, List.set_eq_of_length_le (by rw [List.length_take]; omega)]
      simp
    | false =>
      simp only [List.filter_cons, hp]
      exact delO_take p r os i (by omega)

def tbPk : Tab := [(f_uids_Has, e_Has)]
theorem tbPk_ok : TabOk X tbPk := tab_cons e_Has_ok tab_nil
theorem kPk {b : Bool} {l : List (Int × Int)} {n last : Int} (h : l.length ≤ 1000000000) : tabK tbPk f_uids_Has [.lst 2 b (rowsOf l), iv n, iv last] = some (bv (hasV l n last)) := kHas rfl h

noncomputable def inv_p0 : Suids_Pick__n_slices_IndexFunc_int_int_0 → Bool
  | .s0 t7 t8 b rows nums os => propB (∃ l ns, rows = rowsOf l ∧ nums = ivs ns ∧ os = ivs ns ∧ t7 = ns.length ∧ 0 ≤ t8 ∧ t8 ≤ t7 ∧ ns.length ≤ 1000 ∧ l.length ≤ 1000)
theorem i_p0 {t7 t8 : Int} {b : Bool} {rows nums os : List AV} (h : ∃ l ns, rows = rowsOf l ∧ nums = ivs ns ∧ os = ivs ns ∧ t7 = ns.length ∧ 0 ≤ t8 ∧ t8 ≤ t7 ∧ ns.length ≤ 1000 ∧ l.length ≤ 1000) : inv_p0 (.s0 t7 t8 b rows nums os) = true := propB_of h
def out_p0 : Suids_Pick__n_slices_IndexFunc_int_int_0 → Ouids_Pick__n_slices_IndexFunc_int_int_0
  | .s0 t7 t8 b rows nums os =>
    match goIdx (fun n => !hasV ((pairsOf rows).getD []) n (lastOf ((intsOf nums).getD []))) (((intsOf nums).getD []).drop t8.toNat) t8 with
    | some i => .x0 i b rows nums os
    | none => .x1 b rows nums os
theorem l_p0 : ∀ s o, lOf inv_p0 out_p0 s = some o → ∃ k, fuelRec (Ruids_Pick__n_slices_IndexFunc_int_int_0 (tabK tbPk) some) k s = some o :=
  fuel_of inv_p0 out_p0 (fun | .s0 t7 t8 _ _ _ _ => (t7 - t8).toNat) (by
    rintro ⟨t7, t8, b, rows, nums, os⟩ rec hi hrec
    obtain ⟨l, ns, rfl, rfl, rfl, rfl, h0, h1, h2, h3⟩ := of_propB hi
    simp only [Ruids_Pick__n_slices_IndexFunc_int_int_0, out_p0, pairsOf_rows, intsOf_ivs, Option.getD_some]
    by_cases h : t8 < ns.length
    · have hlt : t8.toNat < ns.length := by omega
      have hl2 : (((ivs ns).length : Nat) : Int) = (ns.length : Int) := by rw [ivs_len]
      rw [br_yesD h, br_yesD h0, hl2, br_yesD h, Nat.zero_add, ivs_get _ _ hlt]
      simp only [optK_s, asInt_v]
      rw [w64_id (n := (ns.length : Int) - 1) (by omega) (by omega), br_yesD (by omega), br_yesD (by omega), show ((ns.length : Int) - 1).toNat = ns.length - 1 by omega, lastOf_get _ (by omega)]
      simp only [optK_s, asInt_v]
      rw [kPk (by omega), List.drop_eq_getElem_cons hlt]
      simp only [optK_s, asBool_v, goIdx]
      cases hp : hasV l ns[t8.toNat] (lastOf ns) with
      | false => rfl
      | true =>
        simp only [Bool.not_true, br_f]
        rw [w64_id (n := t8 + 1) (by omega) (by omega), hrec _ (i_p0 ⟨l, ns, rfl, rfl, rfl, rfl, by omega, by omega, h2, h3⟩) (by show ((ns.length : Int) - (t8 + 1)).toNat < ((ns.length : Int) - t8).toNat; omega)]
        simp only [out_p0, pairsOf_rows, intsOf_ivs, Option.getD_some]
        rw [show (t8 + 1).toNat = t8.toNat + 1 by omega]
    · rw [br_noD h]
      have : t8.toNat = ns.length := by omega
      rw [this, List.drop_length]
      rfl)
noncomputable def inv_p1 : Suids_Pick__n_slices_DeleteFunc_int_int_0 → Bool
  | .s0 i j b rows nums os => propB (∃ l ns ms, rows = rowsOf l ∧ nums = ivs ns ∧ os = ivs ms ∧ ms.length = ns.length ∧ 0 ≤ i ∧ i < j ∧ j ≤ ns.length ∧ ns.length ≤ 1000 ∧ l.length ≤ 1000)
theorem i_p1 {i j : Int} {b : Bool} {rows nums os : List AV} (h : ∃ l ns ms, rows = rowsOf l ∧ nums = ivs ns ∧ os = ivs ms ∧ ms.length = ns.length ∧ 0 ≤ i ∧ i < j ∧ j ≤ ns.length ∧ ns.length ≤ 1000 ∧ l.length ≤ 1000) : inv_p1 (.s0 i j b rows nums os) = true := propB_of h
def out_p1 : Suids_Pick__n_slices_DeleteFunc_int_int_0 → Ouids_Pick__n_slices_DeleteFunc_int_int_0
  | .s0 i j b rows nums os =>
    let p := fun n => hasV ((pairsOf rows).getD []) n (lastOf ((intsOf nums).getD []))
    let ms := (intsOf os).getD []
    .x0 (i + (((ms.drop j.toNat).filter p).length : Nat)) b rows nums (ivs (delO p ms i.toNat (ms.drop j.toNat)))
theorem l_p1 : ∀ s o, lOf inv_p1 out_p1 s = some o → ∃ k, fuelRec (Ruids_Pick__n_slices_DeleteFunc_int_int_0 (tabK tbPk) some) k s = some o :=
  fuel_of inv_p1 out_p1 (fun | .s0 i j _ _ _ os => (os.length - j).toNat) (by
    rintro ⟨i, j, b, rows, nums, os⟩ rec hi hrec
    obtain ⟨l, ns, ms, rfl, rfl, rfl, hm, h0, h1, h2, h3, h4⟩ := of_propB hi
    simp only [Ruids_Pick__n_slices_DeleteFunc_int_int_0, out_p1, pairsOf_rows, intsOf_ivs, Option.getD_some]
    have hl2 : (((ivs ns).length : Nat) : Int) = (ns.length : Int) := by rw [ivs_len]
    have hl3 : (((ivs ms).length : Nat) : Int) = (ns.length : Int) := by rw [ivs_len, hm]
    by_cases h : j < ns.length
    · have hlt : j.toNat < ms.length := by omega
      rw [hl2, hl3, br_yesD h, br_yesD (by omega), br_yesD h, Nat.zero_add, ivs_get _ _ hlt]
      simp only [optK_s, asInt_v]
      rw [w64_id (n := (ns.length : Int) - 1) (by omega) (by omega), br_yesD (by omega), br_yesD (by omega), show ((ns.length : Int) - 1).toNat = ns.length - 1 by omega, lastOf_get _ (by omega)]
      simp only [optK_s, asInt_v]
      rw [kPk (by omega), List.drop_eq_getElem_cons hlt]
      simp only [optK_s, asBool_v]
      cases hp : hasV l ms[j.toNat] (lastOf ns) with
      | false =>
        simp only [Bool.not_true, Bool.not_false, br_f]
        rw [w64_id (n := j + 1) (by omega) (by omega), hrec _ (i_p1 ⟨l, ns, ms, rfl, rfl, rfl, hm, by omega, by omega, by omega, h3, h4⟩) (by show (((ivs ms).length : Nat) - (j + 1) : Int).toNat < (((ivs ms).length : Nat) - j : Int).toNat; rw [ivs_len]; omega)]
        simp only [out_p1, pairsOf_rows, intsOf_ivs, Option.getD_some]
        rw [show (j + 1).toNat = j.toNat + 1 by omega]
        simp only [List.filter_cons, hp, delO]
        rfl
      | true =>
        simp only [Bool.not_true, Bool.not_false, br_t]
        rw [br_yesD h0, br_yesD (by omega), Nat.zero_add, ivs_set, w64_id (n := j + 1) (by omega) (by omega), w64_id (n := i + 1) (by omega) (by omega), hrec _ (i_p1 ⟨l, ns, _, rfl, rfl, rfl, by simp [hm], by omega, by omega, by omega, h3, h4⟩) (by
          show (((ivs (ms.set i.toNat ms[j.toNat])).length : Nat) - (j + 1) : Int).toNat < (((ivs ms).length : Nat) - j : Int).toNat; rw [ivs_len, ivs_len, List.length_set]; omega)]
        simp only [out_p1, pairsOf_rows, intsOf_ivs, Option.getD_some]
        rw [show (j + 1).toNat = j.toNat + 1 by omega, show (i + 1).toNat = i.toNat + 1 by omega, List.drop_set_of_lt (by omega)]
        simp only [List.filter_cons, hp, delO, if_true, List.length_cons]
        rw [show i + 1 + (((ms.drop (j.toNat + 1)).filter fun n => hasV l n (lastOf ns)).length : Nat) = i + ((((ms.drop (j.toNat + 1)).filter fun n => hasV l n (lastOf ns)).length + 1 : Nat) : Int) by omega]
    · rw [hl3, br_noD h]
      have : j.toNat = ms.length := by omega
      rw [this, List.drop_length]
      simp [delO])

/-- The first place where it fails: all ahead of it hold. -/
theorem goIdx_at {p : Int → Bool} : ∀ {l : List Int} {i k : Int}, goIdx (fun n => !p n) l i = some k →
    ∃ a x r, l = a ++ x :: r ∧ k = i + a.length ∧ (∀ y ∈ a, p y = true) ∧ p x = false
  | [], i, k, e => by cases e
  | x :: xs, i, k, e => by
    unfold goIdx at e
    split at e
    · rename_i hp
      cases e
      exact ⟨[], x, xs, rfl, by simp, by simp, by simpa using hp⟩
    · rename_i hp
      obtain ⟨a, y, r, rfl, rfl, h1, h2⟩ := goIdx_at e
      refine ⟨x :: a, y, r, rfl, by simp only [List.length_cons]; omega, ?_, h2⟩
      intro z hz
      rcases List.mem_cons.1 hz with rfl | hz
      · simpa using hp
      · exact h1 z hz
theorem goIdx_all {p : Int → Bool} : ∀ {l : List Int} {i : Int}, goIdx (fun n => !p n) l i = none → ∀ y ∈ l, p y = true
  | [], i, e => by simp
  | x :: xs, i, e => by
    unfold goIdx at e
    split at e
    · cases e
    · rename_i hp
      intro z hz
      rcases List.mem_cons.1 hz with rfl | hz
      · simpa using hp
      · exact goIdx_all e z hz

theorem t_pick (b : Bool) (l : List (Int × Int)) (ns : List Int) (hl : l.length ≤ 1000) (hn : ns.length ≤ 1000) :
    Ruids_Pick__n (tabK tbPk) (lOf inv_p0 out_p0) (lOf inv_p1 out_p1) b (rowsOf l) (ivs ns) = some (.lst 1 false (ivs (pickV l ns))) := by
  unfold Ruids_Pick__n
  rw [br_pos (by rw [Nat.zero_add, ivs_len]; exact len_ok8 hn), List.nil_append, show (((ivs ns).length : Nat) : Int) = (ns.length : Int) by rw [ivs_len],
    lOf_pos (i_p0 ⟨l, ns, rfl, rfl, rfl, rfl, Int.le_refl 0, by omega, hn, hl⟩)]
  simp only [optK_s, out_p0, pairsOf_rows, intsOf_ivs, Option.getD_some]
  rw [show (0 : Int).toNat = 0 from rfl, List.drop_zero]
  cases hg : goIdx (fun n => !hasV l n (lastOf ns)) ns 0 with
  | none =>
    show some (AV.lst 1 false (ivs ns)) = _
    have : pickV l ns = ns := List.filter_eq_self.2 (goIdx_all (p := fun n => hasV l n (lastOf ns)) hg)
    rw [this]
  | some k =>
    obtain ⟨a, x, r, hns, hk, h1, h2⟩ := goIdx_at (p := fun n => hasV l n (lastOf ns)) hg
    have hlen : ns.length = a.length + (r.length + 1) := by rw [hns]; simp
    simp only [Ouids_Pick__n_slices_IndexFunc_int_int_0.k]
    rw [br_neg (by simp; omega), w64_id (n := k + 1) (by omega) (by omega), lOf_pos (i_p1 ⟨l, ns, ns, rfl, rfl, rfl, rfl, by omega, by omega, by omega, hn, hl⟩)]
    simp only [optK_s, out_p1, pairsOf_rows, intsOf_ivs, Option.getD_some, Ouids_Pick__n_slices_DeleteFunc_int_int_0.k]
    have hd : ns.drop (k + 1).toNat = r := by
      rw [show (k + 1).toNat = (a ++ [x]).length by simp; omega, hns, show a ++ x :: r = (a ++ [x]) ++ r by simp, List.drop_left]
    have hka : k.toNat = a.length := by omega
    rw [hd]
    have hpick : pickV l ns = a ++ r.filter fun n => hasV l n (lastOf ns) := by
      unfold pickV
      conv => lhs; arg 2; rw [hns]
      rw [List.filter_append, List.filter_eq_self.2 h1, List.filter_cons, if_neg (by simpa using h2)]
    have htake := delO_take (fun n => hasV l n (lastOf ns)) r ns k.toNat (by omega)
    have hdl := delO_len (fun n => hasV l n (lastOf ns)) r ns k.toNat
    have hta : ns.take k.toNat = a := by rw [hka, hns, List.take_left]
    generalize hD : delO (fun n => hasV l n (lastOf ns)) ns k.toNat r = D at *
    have hflt : (r.filter fun n => hasV l n (lastOf ns)).length ≤ r.length := List.length_filter_le _ _
    generalize hF : (r.filter fun n => hasV l n (lastOf ns)) = F at *
    have hi : (k + (F.length : Nat)).toNat = k.toNat + F.length := by omega
    have hle : k.toNat + F.length < (ivs D).length := by rw [ivs_len]; omega
    rw [br_yesD (by omega), br_yesD (by show k + ((F.length : Nat) : Int) ≤ ((ivs D).length : Nat); omega), br_yesD (by omega), Nat.zero_add, hi]
    have hgo : ∀ m : Nat, List.take (k.toNat + F.length) (List.take (k.toNat + F.length) (ivs D) ++ List.replicate m (iv 0) ++ List.drop (k.toNat + F.length + m) (ivs D)) = ivs (pickV l ns) := by
      intro m
      rw [List.append_assoc, List.take_append_of_le_length (by rw [List.length_take]; omega), List.take_take, Nat.min_self, ivs_take, htake, hta, hpick]
    rw [br_yesD (by
      show k + ((F.length : Nat) : Int) ≤ ((List.take (k.toNat + F.length) (ivs D) ++ List.replicate _ (iv 0) ++ List.drop _ (ivs D)).length : Nat)
      rw [List.length_append, List.length_append, List.length_take]
      omega), hgo]
noncomputable def e_Pick : List AV → Option AV
  | [.lst 2 b rows, .lst 1 c nums] => match pairsOf rows, intsOf nums with
    | some l, some ns => br (decide (l.length ≤ 1000) && decide (ns.length ≤ 1000)) (match c with
      | false => some (.lst 1 false (ivs (pickV l ns)))
      | true => match ns with
        | [] => some (.lst 1 true [])
        | _ => none) none
    | _, _ => none
  | _ => none
noncomputable def inv_pz : Suids_Pick__z_slices_IndexFunc_int_int_0 → Bool
  | .s0 t7 t8 b rows => propB (t7 = 0 ∧ t8 = 0)
def out_pz : Suids_Pick__z_slices_IndexFunc_int_int_0 → Ouids_Pick__z_slices_IndexFunc_int_int_0
  | .s0 t7 t8 b rows => .x0 b rows
theorem l_pz (K : PureK) : ∀ s o, lOf inv_pz out_pz s = some o → ∃ k, fuelRec (Ruids_Pick__z_slices_IndexFunc_int_int_0 K some) k s = some o :=
  fuel_of inv_pz out_pz (fun _ => 0) (by
    rintro ⟨t7, t8, b, rows⟩ rec hi hrec
    obtain ⟨rfl, rfl⟩ := of_propB (show propB (t7 = 0 ∧ t8 = 0) = true from hi)
    rfl)
theorem e_Pick_ok (xs : List AV) (v : AV) (h : e_Pick xs = some v) : PureCall X f_uids_Pick xs v := by
  unfold e_Pick at h
  split at h
  · rename_i b rows c nums
    split at h
    · rename_i l ns hl hn
      obtain ⟨h1, h⟩ := br_yes h
      obtain rfl := rows_of_pairs hl
      obtain rfl := ivs_of_ints hn
      simp only [Bool.and_eq_true, decide_eq_true_eq] at h1
      cases c with
      | false =>
        cases h
        exact pcuids_Pick__n (tab_ok _ tbPk_ok) l_p0 l_p1 (t_pick b l ns h1.1 h1.2)
      | true =>
        cases ns with
        | nil =>
          cases h
          refine pcuids_Pick__z (tab_ok [] tab_nil) (l_pz _) ?_
          unfold Ruids_Pick__z
          rw [lOf_pos (show inv_pz (.s0 0 0 b (rowsOf l)) = true from propB_of ⟨rfl, rfl⟩)]
          rfl
        | cons x y => cases h
    · cases h
  · cases h
end Go.Proofs.YtckbjhmiopjlkaaDoor
