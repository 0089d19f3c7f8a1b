import Derived.Test.YtckbjhmiopjlkaaDoorUOfLaw
set_option linter.unusedVariables false
set_option linter.unusedSimpArgs false
set_option maxRecDepth 100000
namespace Go.Proofs.YtckbjhmiopjlkaaDoor
/- The reference's Has, Pick, Of, Same; the law UidsPicks, plain. -/
open Go Go.Ab Go.RowKit

theorem hasStep {β : Type} (n p q : Int) (Y Z : Option β) : (optK (br (decide (n ≥ if q < p then q else p)) (some (bv (decide (n ≤ if p < q then q else p)))) (some (bv false))) fun wv => Ab.asBool wv fun wb => br wb Y Z)
    = br (decide (min p q ≤ n) && decide (n ≤ max p q)) Y Z := by
  rw [show (if q < p then q else p) = min p q by split <;> omega, show (if p < q then q else p) = max p q by split <;> omega]
  by_cases h : min p q ≤ n
  · rw [br_yesD h, decide_eq_true h]; rfl
  · rw [br_noD h, decide_eq_false h]; rfl
noncomputable def inv_rh : Sref09_Has_0 → Bool
  | .s0 b rows n last i => propB (∃ l, rows = rowsOf l ∧ 0 ≤ i ∧ i ≤ l.length ∧ l.length ≤ 1000000000)
theorem i_rh {b : Bool} {rows : List AV} {n last i : Int} (h : ∃ l, rows = rowsOf l ∧ 0 ≤ i ∧ i ≤ l.length ∧ l.length ≤ 1000000000) : inv_rh (.s0 b rows n last i) = true := propB_of h
def out_rh : Sref09_Has_0 → Oref09_Has_0
  | .s0 b rows n last i => match decide (n ≥ 1) && (((pairsOf rows).getD []).drop i.toNat).any (inV last n) with
    | true => .x0 true
    | false => .x1
theorem l_rh (K : PureK) : ∀ s o, lOf inv_rh out_rh s = some o → ∃ k, fuelRec (Rref09_Has_0 K some) k s = some o :=
  fuel_of inv_rh out_rh (fun | .s0 _ rows _ _ i => (rows.length - i).toNat) (by
    rintro ⟨b, rows, n, last, i⟩ rec hi hrec
    obtain ⟨l, rfl, h0, h1, h2⟩ := of_propB hi
    simp only [Rref09_Has_0, out_rh, pairsOf_rows, Option.getD_some]
    have hl2 : (((rowsOf l).length : Nat) : Int) = (l.length : Int) := by rw [rowsOf_len]
    rw [hl2]
    by_cases h : i < l.length
    · have hlt : i.toNat < l.length := by omega
      rw [br_yesD h]
      simp only [optK_s, asBool_v]
      by_cases hn : n ≥ 1
      · rw [br_yesD hn, decide_eq_true hn, br_yesD h0, br_yesD h, rowsOf_get _ _ hlt]
        simp only [optK_s]
        rw [asAgg_v _ 2 rfl]
        simp only [List.getD_cons_zero, List.getD_cons_succ, asInt_v]
        rw [br_yesD h0, br_yesD h]
        rw [asAgg_v _ 2 rfl]
        simp only [List.getD_cons_zero, List.getD_cons_succ, asInt_v]
        have hr : rec (.s0 b (rowsOf l) n last (w64 (i + 1))) = some (match (l.drop (i.toNat + 1)).any (inV last n) with
            | true => .x0 true
            | false => .x1) := by
          rw [w64_id (n := i + 1) (by omega) (by omega), hrec _ (i_rh ⟨l, rfl, by omega, by omega, h2⟩) (by show (((rowsOf l).length : Nat) - (i + 1) : Int).toNat < (((rowsOf l).length : Nat) - i : Int).toNat; rw [rowsOf_len]; omega)]
          simp only [out_rh, pairsOf_rows, Option.getD_some]
          rw [decide_eq_true hn, Bool.true_and, show (i + 1).toNat = i.toNat + 1 by omega]
        rw [hr, Bool.true_and, List.drop_eq_getElem_cons hlt, List.any_cons]
        have fin : ∀ c : Bool, c = inV last n l[i.toNat] → br c (some (Oref09_Has_0.x0 true)) (some (match (l.drop (i.toNat + 1)).any (inV last n) with
            | true => .x0 true
            | false => .x1)) = some (match inV last n l[i.toNat] || (l.drop (i.toNat + 1)).any (inV last n) with
            | true => Oref09_Has_0.x0 true
            | false => .x1) := by
          rintro c rfl
          cases inV last n l[i.toNat] <;> rfl
        cases ha : l[i.toNat].1 == 0 <;> cases hb : l[i.toNat].2 == 0 <;> simp only [br_t, br_f] <;> rw [hasStep] <;> refine fin _ ?_ <;> simp only [inV, realV, ha, hb, if_true, Bool.false_eq_true, if_false]
      · rw [br_noD hn, decide_eq_false hn]
        rfl
    · rw [br_noD h]
      have : i.toNat = l.length := by omega
      rw [this, List.drop_length, List.any_nil, Bool.and_false]
      rfl)
def e_rHas : List AV → Option AV
  | [.lst 2 b rows, .v (.int .i64 n), .v (.int .i64 last)] => match pairsOf rows with
    | some l => br (decide (l.length ≤ 1000000000)) (some (bv (hasV l n last))) none
    | none => none
  | _ => none
theorem e_rHas_ok (xs : List AV) (v : AV) (h : e_rHas xs = some v) : PureCall X f_ref09_Has xs v := by
  unfold e_rHas at h
  split at h
  · rename_i b rows n last
    split at h
    · rename_i l hl
      obtain ⟨h1, h⟩ := br_yes h
      have h1 : l.length ≤ 1000000000 := of_decide_eq_true h1
      cases h
      obtain rfl := rows_of_pairs hl
      refine pcref09_Has (tab_ok [] tab_nil) (l_rh _) ?_
      unfold Rref09_Has
      rw [lOf_pos (i_rh ⟨l, rfl, Int.le_refl 0, by omega, h1⟩)]
      simp only [optK_s, out_rh, pairsOf_rows, Option.getD_some]
      rw [show (0 : Int).toNat = 0 from rfl, List.drop_zero]
      unfold hasV
      cases decide (n ≥ 1) && l.any (inV last n) <;> rfl
    · cases h
  · cases h

def tbRp : Tab := [(f_ref09_Has, e_rHas)]
theorem tbRp_ok : TabOk X tbRp := tab_cons e_rHas_ok tab_nil
theorem kRp {b : Bool} {l : List (Int × Int)} {n last : Int} (h : l.length ≤ 1000000000) : tabK tbRp f_ref09_Has [.lst 2 b (rowsOf l), iv n, iv last] = some (bv (hasV l n last)) := by
  show (match pairsOf (rowsOf l) with | some l => br (decide (l.length ≤ 1000000000)) (some (bv (hasV l n last))) none | none => none) = _
  rw [pairsOf_rows]
  exact br_yesD h
noncomputable def inv_rp : Sref09_Pick_0 → Bool
  | .s0 b rows c nums i => propB (∃ l ns, rows = rowsOf l ∧ nums = ivs ns ∧ 0 ≤ i ∧ i ≤ ns.length ∧ ns.length ≤ 500 ∧ l.length ≤ 1000)
  | .s1 b rows c nums i o => propB (∃ l ns os, rows = rowsOf l ∧ nums = ivs ns ∧ o = ivs os ∧ os.length ≤ i ∧ 0 ≤ i ∧ i ≤ ns.length ∧ ns.length ≤ 500 ∧ l.length ≤ 1000)
theorem i_rp0 {b c : Bool} {rows nums : List AV} {i : Int} (h : ∃ l ns, rows = rowsOf l ∧ nums = ivs ns ∧ 0 ≤ i ∧ i ≤ ns.length ∧ ns.length ≤ 500 ∧ l.length ≤ 1000) : inv_rp (.s0 b rows c nums i) = true := propB_of h
theorem i_rp1 {b c : Bool} {rows nums o : List AV} {i : Int} (h : ∃ l ns os, rows = rowsOf l ∧ nums = ivs ns ∧ o = ivs os ∧ os.length ≤ i ∧ 0 ≤ i ∧ i ≤ ns.length ∧ ns.length ≤ 500 ∧ l.length ≤ 1000) : inv_rp (.s1 b rows c nums i o) = true := propB_of h
def pkI (rows nums : List AV) (i : Int) : List Int := ((((intsOf nums).getD []).drop i.toNat).filter fun n => hasV ((pairsOf rows).getD []) n (lastOf ((intsOf nums).getD [])))
def out_rp : Sref09_Pick_0 → Oref09_Pick_0
  | .s0 b rows c nums i => match pkI rows nums i with
    | [] => .x0
    | n :: r => .x1 (ivs (n :: r))
  | .s1 b rows c nums i o => .x1 (o ++ ivs (pkI rows nums i))
theorem pkI_rows (l : List (Int × Int)) (ns : List Int) (i : Int) : pkI (rowsOf l) (ivs ns) i = (ns.drop i.toNat).filter fun n => hasV l n (lastOf ns) := by
  unfold pkI
  rw [pairsOf_rows, intsOf_ivs]
  rfl
theorem l_rp : ∀ s o, lOf inv_rp out_rp s = some o → ∃ k, fuelRec (Rref09_Pick_0 (tabK tbRp) some) k s = some o :=
  fuel_of inv_rp out_rp (fun | .s0 _ _ _ nums i => (nums.length - i).toNat | .s1 _ _ _ nums i _ => (nums.length - i).toNat) (by
    intro s rec hi hrec
    cases s with
    | s0 b rows c nums i =>
      obtain ⟨l, ns, rfl, rfl, h0, h1, h2, h3⟩ := of_propB hi
      simp only [Rref09_Pick_0, out_rp, pkI_rows]
      have hl2 : (((ivs ns).length : Nat) : Int) = (ns.length : Int) := by rw [ivs_len]
      by_cases h : i < ns.length
      · have hlt : i.toNat < ns.length := by omega
        have hi1 : w64 (i + 1) = i + 1 := w64_id (by omega) (by omega)
        have hn1 : w64 ((ns.length : Int) - 1) = (ns.length : Int) - 1 := w64_id (by omega) (by omega)
        rw [hl2, br_yesD h, br_yesD h0, br_yesD h, ivs_get _ _ hlt]
        simp only [optK_s, asInt_v]
        rw [hn1, br_yesD (by omega), br_yesD (by omega), show ((ns.length : Int) - 1).toNat = ns.length - 1 by omega, lastOf_get _ (by omega)]
        simp only [optK_s, asInt_v]
        rw [kRp (by omega), List.drop_eq_getElem_cons hlt, List.filter_cons]
        simp only [optK_s, asBool_v]
        cases hp : hasV l ns[i.toNat] (lastOf ns) with
        | true =>
          simp only [br_t, if_true]
          rw [br_yesD h0, br_yesD h]
          have e := hrec (.s1 b (rowsOf l) c (ivs ns) (i + 1) (ivs [ns[i.toNat]])) (i_rp1 ⟨l, ns, _, rfl, rfl, rfl, by simp; omega, by omega, by omega, h2, h3⟩) (by show (((ivs ns).length : Nat) - (i + 1) : Int).toNat < (((ivs ns).length : Nat) - i : Int).toNat; rw [ivs_len]; omega)
          simp only [out_rp, pkI_rows, ivs_app] at e
          rw [show (i + 1).toNat = i.toNat + 1 by omega] at e
          rw [hi1]
          exact e
        | false =>
          simp only [br_f]
          rw [hi1, hrec _ (i_rp0 ⟨l, ns, rfl, rfl, by omega, by omega, h2, h3⟩) (by show (((ivs ns).length : Nat) - (i + 1) : Int).toNat < (((ivs ns).length : Nat) - i : Int).toNat; rw [ivs_len]; omega)]
          simp only [out_rp, pkI_rows]
          rw [show (i + 1).toNat = i.toNat + 1 by omega]
          rfl
      · rw [hl2, br_noD h]
        have : i.toNat = ns.length := by omega
        rw [this, List.drop_length]
        rfl
    | s1 b rows c nums i o =>
      obtain ⟨l, ns, os, rfl, rfl, rfl, ho, h0, h1, h2, h3⟩ := of_propB hi
      simp only [Rref09_Pick_0, out_rp, pkI_rows]
      have hl2 : (((ivs ns).length : Nat) : Int) = (ns.length : Int) := by rw [ivs_len]
      by_cases h : i < ns.length
      · have hlt : i.toNat < ns.length := by omega
        have hi1 : w64 (i + 1) = i + 1 := w64_id (by omega) (by omega)
        have hn1 : w64 ((ns.length : Int) - 1) = (ns.length : Int) - 1 := w64_id (by omega) (by omega)
        rw [hl2, br_yesD h, br_yesD h0, br_yesD h, ivs_get _ _ hlt]
        simp only [optK_s, asInt_v]
        rw [hn1, br_yesD (by omega), br_yesD (by omega), show ((ns.length : Int) - 1).toNat = ns.length - 1 by omega, lastOf_get _ (by omega)]
        simp only [optK_s, asInt_v]
        rw [kRp (by omega), List.drop_eq_getElem_cons hlt, List.filter_cons]
        simp only [optK_s, asBool_v]
        cases hp : hasV l ns[i.toNat] (lastOf ns) with
        | true =>
          simp only [br_t, if_true]
          rw [br_yesD h0, br_yesD h, br_pos (by rw [ivs_len]; exact len_ok8 (by simp; omega))]
          have e := hrec (.s1 b (rowsOf l) c (ivs ns) (i + 1) (ivs (os ++ [ns[i.toNat]]))) (i_rp1 ⟨l, ns, _, rfl, rfl, rfl, by simp; omega, by omega, by omega, h2, h3⟩) (by show (((ivs ns).length : Nat) - (i + 1) : Int).toNat < (((ivs ns).length : Nat) - i : Int).toNat; rw [ivs_len]; omega)
          simp only [out_rp, pkI_rows, ivs_app, List.append_assoc, List.singleton_append] at e
          rw [show (i + 1).toNat = i.toNat + 1 by omega] at e
          rw [hi1, show [iv ns[i.toNat]] = ivs [ns[i.toNat]] from rfl, ivs_app, ivs_app]
          exact e
        | false =>
          simp only [br_f]
          rw [hi1, hrec _ (i_rp1 ⟨l, ns, os, rfl, rfl, rfl, by omega, by omega, by omega, h2, h3⟩) (by show (((ivs ns).length : Nat) - (i + 1) : Int).toNat < (((ivs ns).length : Nat) - i : Int).toNat; rw [ivs_len]; omega)]
          simp only [out_rp, pkI_rows]
          rw [show (i + 1).toNat = i.toNat + 1 by omega]
          rfl
      · rw [hl2, br_noD h]
        have : i.toNat = ns.length := by omega
        rw [this, List.drop_length]
        simp [ivs])
def e_rPick : List AV → Option AV
  | [.lst 2 b rows, .lst 1 c nums] => match pairsOf rows, intsOf nums with
    | some l, some ns => br (decide (l.length ≤ 1000) && decide (ns.length ≤ 500)) (some (.lst 1 (pickV l ns).isEmpty (ivs (pickV l ns)))) none
    | _, _ => none
  | _ => none
theorem e_rPick_ok (xs : List AV) (v : AV) (h : e_rPick xs = some v) : PureCall X f_ref09_Pick xs v := by
  unfold e_rPick at h
  split at h
  · rename_i b rows c nums
    split at h
    · rename_i l ns hl hn
      obtain ⟨h1, h⟩ := br_yes h
      obtain rfl := rows_of_pairs hl
      obtain rfl := ivs_of_ints hn
      simp only [Bool.and_eq_true, decide_eq_true_eq] at h1
      cases h
      refine pcref09_Pick (tab_ok _ tbRp_ok) l_rp ?_
      unfold Rref09_Pick
      rw [lOf_pos (i_rp0 ⟨l, ns, rfl, rfl, Int.le_refl 0, by omega, h1.2, h1.1⟩)]
      simp only [optK_s, out_rp, pkI_rows]
      rw [show (0 : Int).toNat = 0 from rfl, List.drop_zero]
      show _ = some (AV.lst 1 (pickV l ns).isEmpty (ivs (pickV l ns)))
      unfold pickV
      cases ns.filter fun n => hasV l n (lastOf ns) <;> rfl
    · cases h
  · cases h

noncomputable def inv_ro : Sref09_Of_0 → Bool
  | .s0 b rows i => propB (∃ ns, rows = ivs ns ∧ 0 ≤ i ∧ i ≤ ns.length ∧ ns.length ≤ 500 ∧ ∀ n ∈ ns, goodN n)
  | .s1 b rows i o => propB (∃ ns l, rows = ivs ns ∧ o = rowsOf l ∧ goodL l ∧ 0 < l.length ∧ l.length ≤ i ∧ 0 ≤ i ∧ i ≤ ns.length ∧ ns.length ≤ 500 ∧ ∀ n ∈ ns, goodN n)
theorem i_ro0 {b : Bool} {rows : List AV} {i : Int} (h : ∃ ns, rows = ivs ns ∧ 0 ≤ i ∧ i ≤ ns.length ∧ ns.length ≤ 500 ∧ ∀ n ∈ ns, goodN n) : inv_ro (.s0 b rows i) = true := propB_of h
theorem i_ro1 {b : Bool} {rows o : List AV} {i : Int} (h : ∃ ns l, rows = ivs ns ∧ o = rowsOf l ∧ goodL l ∧ 0 < l.length ∧ l.length ≤ i ∧ 0 ≤ i ∧ i ≤ ns.length ∧ ns.length ≤ 500 ∧ ∀ n ∈ ns, goodN n) : inv_ro (.s1 b rows i o) = true := propB_of h
def out_ro : Sref09_Of_0 → Oref09_Of_0
  | .s0 b rows i => match ((intsOf rows).getD []).drop i.toNat with
    | [] => .x0
    | n :: r => .x1 (rowsOf (r.foldl ofStep [(n, n)]))
  | .s1 b rows i o => .x1 (rowsOf ((((intsOf rows).getD []).drop i.toNat).foldl ofStep ((pairsOf o).getD [])))
theorem l_ro (K : PureK) : ∀ s o, lOf inv_ro out_ro s = some o → ∃ k, fuelRec (Rref09_Of_0 K some) k s = some o :=
  fuel_of inv_ro out_ro (fun | .s0 _ rows i => (rows.length - i).toNat | .s1 _ rows i _ => (rows.length - i).toNat) (by
    intro s rec hi hrec
    cases s with
    | s0 b rows i =>
      obtain ⟨ns, rfl, h0, h1, h2, h3⟩ := of_propB hi
      simp only [Rref09_Of_0, out_ro, intsOf_ivs, Option.getD_some]
      have hl2 : (((ivs ns).length : Nat) : Int) = (ns.length : Int) := by rw [ivs_len]
      by_cases h : i < ns.length
      · have hlt : i.toNat < ns.length := by omega
        have hg := h3 ns[i.toNat] (List.getElem_mem hlt)
        rw [hl2, br_yesD h, br_yesD h0, br_yesD h, ivs_get _ _ hlt, List.drop_eq_getElem_cons hlt]
        simp only [optK_s, asInt_v]
        rw [br_yesD h0, br_yesD h, w64_id (n := i + 1) (by omega) (by omega)]
        have e := hrec (.s1 b (ivs ns) (i + 1) (rowsOf [(ns[i.toNat], ns[i.toNat])])) (i_ro1 ⟨ns, _, rfl, rfl, by
            intro r hr; simp at hr; subst hr; exact ⟨hg.1, Int.le_refl _, hg.2⟩, by simp, by simp; omega, by omega, by omega, h2, h3⟩) (by show (((ivs ns).length : Nat) - (i + 1) : Int).toNat < (((ivs ns).length : Nat) - i : Int).toNat; rw [ivs_len]; omega)
        simp only [out_ro, intsOf_ivs, pairsOf_rows, Option.getD_some] at e
        rw [show (i + 1).toNat = i.toNat + 1 by omega] at e
        exact e
      · rw [hl2, br_noD h]
        have : i.toNat = ns.length := by omega
        rw [this, List.drop_length]
    | s1 b rows i o =>
      obtain ⟨ns, l, rfl, rfl, hl, hl0, hli, h0, h1, h2, h3⟩ := of_propB hi
      simp only [Rref09_Of_0, out_ro, intsOf_ivs, pairsOf_rows, Option.getD_some]
      have hl2 : (((ivs ns).length : Nat) : Int) = (ns.length : Int) := by rw [ivs_len]
      have hl3 : (((rowsOf l).length : Nat) : Int) = (l.length : Int) := by rw [rowsOf_len]
      by_cases h : i < ns.length
      · have hlt : i.toNat < ns.length := by omega
        have hg := h3 ns[i.toNat] (List.getElem_mem hlt)
        have hg1 := hg.1
        have hg2 := hg.2
        rw [hl2, hl3, br_yesD h, br_yesD (by omega), w64_id (n := (l.length : Int) - 1) (by omega) (by omega), br_yesD (by omega), br_yesD (by omega), show ((l.length : Int) - 1).toNat = l.length - 1 by omega, Nat.zero_add, rows_last _ hl0]
        simp only [optK_s]
        rw [asAgg_v _ 2 rfl]
        simp only [List.getD_cons_zero, List.getD_cons_succ, asInt_v]
        rw [br_yesD h0, br_yesD h, ivs_get _ _ hlt, List.drop_eq_getElem_cons hlt]
        simp only [optK_s, asInt_v, asBool_v]
        have hgl : goodL [l.getD (l.length - 1) (0, -5)] := by
          intro r hr
          simp at hr
          subst hr
          refine hl _ ?_
          simp [List.getElem?_eq_getElem (show l.length - 1 < l.length by omega)]
        obtain ⟨q1, q2, q3⟩ := hgl _ (List.mem_singleton.2 rfl)
        have hR := ofStep_good hl hg
        have hN := ofStep_ne l ns[i.toNat] hg1
        have hL := ofStep_le l ns[i.toNat]
        have hS : ofStep l ns[i.toNat] = _ := rfl
        rw [List.foldl_cons]
        conv at hS => rhs; unfold ofStep
        have fin : ∀ X, X = rowsOf (ofStep l ns[i.toNat]) → rec (.s1 b (ivs ns) (w64 (i + 1)) X) = some (.x1 (rowsOf ((ns.drop (i.toNat + 1)).foldl ofStep (ofStep l ns[i.toNat])))) := by
          rintro X rfl
          rw [w64_id (n := i + 1) (by omega) (by omega), hrec _ (i_ro1 ⟨ns, _, rfl, rfl, hR, hN, by omega, by omega, by omega, h2, h3⟩) (by show (((ivs ns).length : Nat) - (i + 1) : Int).toNat < (((ivs ns).length : Nat) - i : Int).toNat; rw [ivs_len]; omega)]
          simp only [out_ro, intsOf_ivs, pairsOf_rows, Option.getD_some]
          rw [show (i + 1).toNat = i.toNat + 1 by omega]
        rw [w64_id (n := ns[i.toNat] - 1) (by omega) (by omega)]
        by_cases e : (l.getD (l.length - 1) (0, -5)).2 + 1 = ns[i.toNat]
        · rw [decide_eq_true e] at hS
          have e2 : (l.getD (l.length - 1) (0, -5)).2 = ns[i.toNat] - 1 := by omega
          rw [br_pos (beq_iff_eq.2 e2), br_yesD h0, br_yesD h, br_yesD (by omega), br_yesD (by omega)]
          refine fin _ ?_
          rw [hS, ← rows_set]
        · rw [decide_eq_false e] at hS
          have e2 : ¬ (l.getD (l.length - 1) (0, -5)).2 = ns[i.toNat] - 1 := by omega
          rw [br_neg (beq_eq_false_iff_ne.2 e2), br_yesD h0, br_yesD h, br_yesD h0, br_yesD h, br_pos (by rw [rowsOf_len]; exact len_ok16 (by simp; omega))]
          refine fin _ ?_
          rw [hS, ← rows_app2]
          rfl
      · rw [hl2, br_noD h]
        have : i.toNat = ns.length := by omega
        rw [this, List.drop_length]
        rfl)
def e_rOf : List AV → Option AV
  | [.lst 1 b rows] => match intsOf rows with
    | some ns => br (decide (ns.length ≤ 500) && goodAll ns) (some (.lst 2 ns.isEmpty (rowsOf (ofV ns)))) none
    | none => none
  | _ => none
theorem e_rOf_ok (xs : List AV) (v : AV) (h : e_rOf xs = some v) : PureCall X f_ref09_Of xs v := by
  unfold e_rOf at h
  split at h
  · rename_i b rows
    split at h
    · rename_i ns hl
      obtain ⟨h1, h⟩ := br_yes h
      cases h
      obtain rfl := ivs_of_ints hl
      simp only [Bool.and_eq_true, decide_eq_true_eq] at h1
      have hg := goodAll_of h1.2
      refine pcref09_Of (tab_ok [] tab_nil) (l_ro _) ?_
      unfold Rref09_Of
      rw [lOf_pos (i_ro0 ⟨ns, rfl, Int.le_refl 0, by omega, h1.1, hg⟩)]
      simp only [optK_s, out_ro, intsOf_ivs, Option.getD_some]
      rw [show (0 : Int).toNat = 0 from rfl, List.drop_zero]
      cases ns with
      | nil => rfl
      | cons n r =>
        rw [ofV_cons (hg n (by simp)).1]
        rfl
    · cases h
  · cases h

noncomputable def inv_sm : Sref09_Same_0 → Bool
  | .s0 p ra q rb i => propB (∃ a b, ra = rowsOf a ∧ rb = rowsOf b ∧ a.length = b.length ∧ 0 ≤ i ∧ i ≤ a.length ∧ a.length ≤ 1000000000)
theorem i_sm {p q : Bool} {ra rb : List AV} {i : Int} (h : ∃ a b, ra = rowsOf a ∧ rb = rowsOf b ∧ a.length = b.length ∧ 0 ≤ i ∧ i ≤ a.length ∧ a.length ≤ 1000000000) : inv_sm (.s0 p ra q rb i) = true := propB_of h
def out_sm : Sref09_Same_0 → Oref09_Same_0
  | .s0 p ra q rb i => match decide (((pairsOf ra).getD []).drop i.toNat = ((pairsOf rb).getD []).drop i.toNat) with
    | true => .x1
    | false => .x0 false
theorem l_sm (K : PureK) : ∀ s o, lOf inv_sm out_sm s = some o → ∃ k, fuelRec (Rref09_Same_0 K some) k s = some o :=
  fuel_of inv_sm out_sm (fun | .s0 _ ra _ _ i => (ra.length - i).toNat) (by
    rintro ⟨p, ra, q, rb, i⟩ rec hi hrec
    obtain ⟨a, b, rfl, rfl, hab, h0, h1, h2⟩ := of_propB hi
    simp only [Rref09_Same_0, out_sm, pairsOf_rows, Option.getD_some]
    by_cases h : i < a.length
    · have hlt : i.toNat < a.length := by omega
      have hltb : i.toNat < b.length := by omega
      have ha2 : i < ((rowsOf a).length : Nat) := by rw [rowsOf_len]; exact h
      have hb2 : i < ((rowsOf b).length : Nat) := by rw [rowsOf_len]; omega
      rw [br_yesD ha2, br_yesD h0, br_yesD ha2, rowsOf_get _ _ hlt]
      simp only [optK_s]
      rw [asAgg_v _ 2 rfl]
      simp only [List.getD_cons_zero, List.getD_cons_succ, asInt_v]
      rw [br_yesD h0, br_yesD hb2, rowsOf_get _ _ hltb]
      simp only [optK_s]
      rw [asAgg_v _ 2 rfl]
      simp only [List.getD_cons_zero, List.getD_cons_succ, asInt_v]
      rw [List.drop_eq_getElem_cons hlt, List.drop_eq_getElem_cons hltb]
      by_cases e : a[i.toNat] = b[i.toNat]
      · rw [br_neg (by simp [e]), w64_id (n := i + 1) (by omega) (by omega), hrec _ (i_sm ⟨a, b, rfl, rfl, hab, by omega, by omega, h2⟩) (by show (((rowsOf a).length : Nat) - (i + 1) : Int).toNat < (((rowsOf a).length : Nat) - i : Int).toNat; rw [rowsOf_len]; omega)]
        simp only [out_sm, pairsOf_rows, Option.getD_some, e, List.cons.injEq, true_and]
        rw [show (i + 1).toNat = i.toNat + 1 by omega]
      · rw [br_pos (by
          have : ¬ (a[i.toNat].1 = b[i.toNat].1 ∧ a[i.toNat].2 = b[i.toNat].2) := fun ⟨x, y⟩ => e (Prod.ext x y)
          rcases Decidable.not_and_iff_or_not.1 this with h | h <;> simp [h])]
        simp only [List.cons.injEq, e, false_and, decide_false]
    · have ha2 : ¬ i < ((rowsOf a).length : Nat) := by rw [rowsOf_len]; exact h
      rw [br_noD ha2]
      have e1 : i.toNat = a.length := by omega
      rw [e1, List.drop_length, hab, List.drop_length]
      simp)
def e_Same : List AV → Option AV
  | [.lst 2 _ ra, .lst 2 _ rb] => match pairsOf ra, pairsOf rb with
    | some a, some b => br (decide (a.length ≤ 1000000000)) (some (bv (decide (a = b)))) none
    | _, _ => none
  | _ => none
theorem e_Same_ok (xs : List AV) (v : AV) (h : e_Same xs = some v) : PureCall X f_ref09_Same xs v := by
  unfold e_Same at h
  split at h
  · rename_i p ra q rb
    split at h
    · rename_i a b ha hb
      obtain ⟨h1, h⟩ := br_yes h
      have h1 : a.length ≤ 1000000000 := of_decide_eq_true h1
      cases h
      obtain rfl := rows_of_pairs ha
      obtain rfl := rows_of_pairs hb
      refine pcref09_Same (tab_ok [] tab_nil) (l_sm _) ?_
      unfold Rref09_Same
      rw [rowsOf_len, rowsOf_len]
      by_cases hl : a.length = b.length
      · rw [br_neg (by simp [hl]), lOf_pos (i_sm ⟨a, b, rfl, rfl, hl, Int.le_refl 0, by omega, h1⟩)]
        simp only [optK_s, out_sm, pairsOf_rows, Option.getD_some]
        rw [show (0 : Int).toNat = 0 from rfl, List.drop_zero, List.drop_zero]
        cases decide (a = b) <;> rfl
      · rw [br_pos (by simp; omega), decide_eq_false (fun e => hl (by rw [e]))]
    · cases h
  · cases h
theorem kSame {T : Tab} (hT : tabK T f_ref09_Same = e_Same) {b c : Bool} {l m : List (Int × Int)} (h : l.length ≤ 1000000000) : tabK T f_ref09_Same [.lst 2 b (rowsOf l), .lst 2 c (rowsOf m)] = some (bv (decide (l = m))) := by
  rw [hT]
  show (match pairsOf (rowsOf l), pairsOf (rowsOf m) with
    | some a, some b => br (decide (a.length ≤ 1000000000)) (some (bv (decide (a = b)))) none
    | _, _ => none) = _
  rw [pairsOf_rows, pairsOf_rows]
  exact br_yesD h
theorem kRHas {T : Tab} (hT : tabK T f_ref09_Has = e_rHas) {b : Bool} {l : List (Int × Int)} {n last : Int} (h : l.length ≤ 1000000000) : tabK T f_ref09_Has [.lst 2 b (rowsOf l), iv n, iv last] = some (bv (hasV l n last)) := by
  rw [hT]
  show (match pairsOf (rowsOf l) with | some l => br (decide (l.length ≤ 1000000000)) (some (bv (hasV l n last))) none | none => none) = _
  rw [pairsOf_rows]
  exact br_yesD h
theorem kROf {T : Tab} (hT : tabK T f_ref09_Of = e_rOf) {b : Bool} {l : List Int} (h : l.length ≤ 500) (hg : goodAll l = true) : tabK T f_ref09_Of [.lst 1 b (ivs l)] = some (.lst 2 l.isEmpty (rowsOf (ofV l))) := by
  rw [hT]
  show (match intsOf (ivs l) with | some ns => br (decide (ns.length ≤ 500) && goodAll ns) (some (AV.lst 2 ns.isEmpty (rowsOf (ofV ns)))) none | none => none) = _
  rw [intsOf_ivs]
  exact br_pos (by rw [hg, decide_eq_true h]; rfl)
theorem kRPick {T : Tab} (hT : tabK T f_ref09_Pick = e_rPick) {b c : Bool} {l : List (Int × Int)} {ns : List Int} (h1 : l.length ≤ 1000) (h2 : ns.length ≤ 500) :
    tabK T f_ref09_Pick [.lst 2 b (rowsOf l), .lst 1 c (ivs ns)] = some (.lst 1 (pickV l ns).isEmpty (ivs (pickV l ns))) := by
  rw [hT]
  show (match pairsOf (rowsOf l), intsOf (ivs ns) with
    | some l, some ns => br (decide (l.length ≤ 1000) && decide (ns.length ≤ 500)) (some (AV.lst 1 (pickV l ns).isEmpty (ivs (pickV l ns)))) none
    | _, _ => none) = _
  rw [pairsOf_rows, intsOf_ivs]
  exact br_pos (by rw [decide_eq_true h1, decide_eq_true h2]; rfl)

noncomputable def tbLp : Tab := [(f_law09_alive, e_alive), (f_uids_Has, e_Has), (f_uids_Of, e_Of), (f_uids_Pick, e_Pick), (f_ref09_Rising, e_Ris), (f_ref09_Ints, e_Ints), (f_ref09_Has, e_rHas), (f_ref09_Pick, e_rPick), (f_ref09_Of, e_rOf), (f_ref09_Same, e_Same)]
theorem tbLp_ok : TabOk X tbLp := tab_cons e_alive_ok (tab_cons e_Has_ok (tab_cons e_Of_ok (tab_cons e_Pick_ok (tab_cons e_Ris_ok (tab_cons e_Ints_ok (tab_cons e_rHas_ok (tab_cons e_rPick_ok (tab_cons e_rOf_ok (tab_cons e_Same_ok tab_nil)))))))))
theorem asLst_1 {β : Type} (es : Nat) (b : Bool) (rows : List AV) (k : Bool → List AV → Option β) : Ab.asLst (.lst es b rows) es k = k b rows := by
  unfold Ab.asLst
  simp
theorem t_picks (b : Bool) (l : List (Int × Int)) (c : Bool) (ns : List Int) (x y : Int) (hc : c = true → ns = []) : Rlaw09_UidsPicks (tabK tbLp) b (rowsOf l) c (ivs ns) x y = some (bv true) := by
  unfold Rlaw09_UidsPicks
  rw [show tabK tbLp f_law09_alive [] = some (bv true) from rfl]
  simp only [optK_s, asBool_v, Bool.not_true, br_f]
  have hl2 : (((ivs ns).length : Nat) : Int) = (ns.length : Int) := by rw [ivs_len]
  have hl3 : (((rowsOf l).length : Nat) : Int) = (l.length : Int) := by rw [rowsOf_len]
  rw [hl2, hl3]
  by_cases hl : (l.length : Int) > 200
  · rw [br_yesD hl]; rfl
  · rw [br_noD hl]
    simp only [optK_s, asBool_v]
    by_cases hn : (ns.length : Int) > 200
    · rw [br_yesD hn]
    · rw [br_noD hn, kHas (T := tbLp) rfl (by omega), kRHas (T := tbLp) rfl (by omega)]
      simp only [optK_s, asBool_v, beq_self_eq_true, Bool.not_true, br_f]
      rw [kRis (T := tbLp) rfl (by omega)]
      simp only [optK_s, asBool_v]
      cases hr : risB ns with
      | false => rfl
      | true =>
        simp only [Bool.not_true, br_f]
        have hga := ris_good hr
        have hg := goodAll_of hga
        have hlen := ofV_len hg
        have hpl : (pickV l ns).length ≤ ns.length := List.length_filter_le _ _
        rw [kPick (T := tbLp) rfl (by omega) (by omega) hc]
        simp only [optK_s, asLst_1]
        rw [kRPick (T := tbLp) rfl (by omega) (by omega)]
        simp only [optK_s, asLst_1]
        rw [kInts (T := tbLp) rfl (by omega)]
        simp only [optK_s, asBool_v, decide_true, br_t]
        rw [kOf (T := tbLp) rfl (by omega) hga]
        simp only [optK_s, asLst_1]
        rw [kROf (T := tbLp) rfl (by omega) hga]
        simp only [optK_s, asLst_1]
        rw [kSame (T := tbLp) rfl (by omega)]
        simp only [optK_s, asBool_v, decide_true]
end Go.Proofs.YtckbjhmiopjlkaaDoor
