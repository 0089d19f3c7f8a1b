import Derived.Test.YtckbjhmiopjlkaaDoorUPick
set_option linter.unusedVariables false
set_option linter.unusedSimpArgs false
set_option maxRecDepth 100000
namespace Go.Proofs.YtckbjhmiopjlkaaDoor
/- Numbers' sets; the reference's Has, Pick, Same. -/
open Go Go.Ab Go.RowKit

/-- One number more. -/
def ofStep (l : List (Int × Int)) (n : Int) : List (Int × Int) :=
  match decide ((l.getD (l.length - 1) (0, -5)).2 + 1 = n) with
  | true => l.set (l.length - 1) ((l.getD (l.length - 1) (0, -5)).1, n)
  | false => l ++ [(n, n)]
def ofV (ns : List Int) : List (Int × Int) := ns.foldl ofStep []
def goodN (n : Int) : Prop := 1 ≤ n ∧ n ≤ 4294967295
theorem getD_end (l : List (Int × Int)) (r : Int × Int) : (l ++ [r]).getD ((l ++ [r]).length - 1) (0, -5) = r := by simp
theorem ofStep_end (l : List (Int × Int)) (r : Int × Int) (n : Int) : ofStep (l ++ [r]) n = if r.2 + 1 = n then l ++ [(r.1, n)] else l ++ [r, (n, n)] := by
  unfold ofStep
  rw [getD_end]
  by_cases h : r.2 + 1 = n
  · rw [decide_eq_true h, if_pos h]; simp
  · rw [decide_eq_false h, if_neg h]; simp
theorem snoc_of {α : Type} (l : List α) : l = [] ∨ ∃ a x, l = a ++ [x] := by
  induction l with
  | nil => exact Or.inl rfl
  | cons y t ih =>
    rcases ih with rfl | ⟨a, x, rfl⟩
    · exact Or.inr ⟨[], y, rfl⟩
    · exact Or.inr ⟨y :: a, x, rfl⟩
theorem ofStep_nil {n : Int} (h : 1 ≤ n) : ofStep [] n = [(n, n)] := by
  unfold ofStep
  rw [decide_eq_false (by simp; omega)]
  rfl
theorem ofStep_ne (l : List (Int × Int)) (n : Int) (h : 1 ≤ n) : 0 < (ofStep l n).length := by
  rcases snoc_of l with rfl | ⟨a, x, rfl⟩
  · rw [ofStep_nil h]; simp
  · rw [ofStep_end]; split <;> simp
theorem ofStep_le (l : List (Int × Int)) (n : Int) : (ofStep l n).length ≤ l.length + 1 := by
  unfold ofStep; split <;> simp
/-- The sets of the right numbers. -/
def goodL (l : List (Int × Int)) : Prop := ∀ r ∈ l, 1 ≤ r.1 ∧ r.1 ≤ r.2 ∧ r.2 ≤ 4294967295
theorem ofStep_good {l : List (Int × Int)} {n : Int} (h : goodL l) (hn : goodN n) : goodL (ofStep l n) := by
  rcases snoc_of l with rfl | ⟨a, x, rfl⟩
  · rw [ofStep_nil hn.1]
    intro r hr
    simp at hr
    subst hr
    exact ⟨hn.1, Int.le_refl _, hn.2⟩
  · have hx := h x (by simp)
    have hn := hn
    unfold goodN at hn
    rw [ofStep_end]
    split
    · intro r hr
      rcases List.mem_append.1 hr with hr | hr
      · exact h r (by simp [hr])
      · simp at hr
        subst hr
        exact ⟨hx.1, by simp only; omega, hn.2⟩
    · intro r hr
      rcases List.mem_append.1 hr with hr | hr
      · exact h r (by simp [hr])
      · simp at hr
        rcases hr with rfl | rfl
        · exact hx
        · exact ⟨hn.1, Int.le_refl _, hn.2⟩
def inR (x : Int) (l : List (Int × Int)) : Prop := ∃ r ∈ l, r.1 ≤ x ∧ x ≤ r.2
theorem ofStep_in {l : List (Int × Int)} {n : Int} (h : goodL l) (hn : goodN n) (x : Int) : inR x (ofStep l n) ↔ inR x l ∨ x = n := by
  unfold inR
  rcases snoc_of l with rfl | ⟨a, r, rfl⟩
  · rw [ofStep_nil hn.1]
    simp
    omega
  · have hr := h r (by simp)
    rw [ofStep_end]
    split
    · simp only [List.mem_append, List.mem_singleton]
      constructor
      · rintro ⟨q, hq | rfl, h1, h2⟩
        · exact Or.inl ⟨q, Or.inl hq, h1, h2⟩
        · by_cases e : x = n
          · exact Or.inr e
          · exact Or.inl ⟨r, Or.inr rfl, h1, by simp only at h2; omega⟩
      · rintro (⟨q, hq | rfl, h1, h2⟩ | rfl)
        · exact ⟨q, Or.inl hq, h1, h2⟩
        · exact ⟨_, Or.inr rfl, h1, by simp only; omega⟩
        · exact ⟨_, Or.inr rfl, by simp only; omega, Int.le_refl _⟩
    · simp only [List.mem_append, List.mem_cons, List.not_mem_nil, or_false]
      constructor
      · rintro ⟨q, hq | rfl | rfl, h1, h2⟩
        · exact Or.inl ⟨q, Or.inl hq, h1, h2⟩
        · exact Or.inl ⟨_, Or.inr rfl, h1, h2⟩
        · exact Or.inr (by simp only at h1 h2; omega)
      · rintro (⟨q, hq | rfl, h1, h2⟩ | rfl)
        · exact ⟨q, Or.inl hq, h1, h2⟩
        · exact ⟨_, Or.inr (Or.inl rfl), h1, h2⟩
        · exact ⟨_, Or.inr (Or.inr rfl), Int.le_refl _, Int.le_refl _⟩
theorem fold_in : ∀ (ns : List Int) (l : List (Int × Int)), goodL l → (∀ n ∈ ns, goodN n) → goodL (ns.foldl ofStep l) ∧ (∀ x, inR x (ns.foldl ofStep l) ↔ inR x l ∨ x ∈ ns) ∧ (ns.foldl ofStep l).length ≤ l.length + ns.length
  | [], l, h, _ => ⟨h, fun x => by simp, by simp⟩
  | n :: ns, l, h, hn => by
    have h0 := hn n (by simp)
    obtain ⟨h1, h2, h3⟩ := fold_in ns (ofStep l n) (ofStep_good h h0) (fun m hm => hn m (by simp [hm]))
    refine ⟨h1, fun x => ?_, ?_⟩
    · rw [List.foldl_cons, h2, ofStep_in h h0, List.mem_cons, or_assoc]
    · have := ofStep_le l n
      rw [List.foldl_cons, List.length_cons]
      omega
theorem ofV_len {ns : List Int} (h : ∀ n ∈ ns, goodN n) : (ofV ns).length ≤ ns.length := by
  have := (fold_in ns [] (by simp [goodL]) h).2.2
  simpa [ofV] using this
theorem hasV_of {ns : List Int} (h : ∀ n ∈ ns, goodN n) (x last : Int) : hasV (ofV ns) x last = decide (x ∈ ns) := by
  obtain ⟨h1, h2, _⟩ := fold_in ns [] (by simp [goodL]) h
  have h2 : inR x (ofV ns) ↔ x ∈ ns := by rw [show ofV ns = ns.foldl ofStep [] from rfl, h2 x]; simp [inR]
  have h1 : goodL (ofV ns) := h1
  have key : hasV (ofV ns) x last = true ↔ x ∈ ns := by
    rw [← h2]
    unfold hasV inR
    simp only [Bool.and_eq_true, decide_eq_true_eq, List.any_eq_true]
    have hin : ∀ r ∈ ofV ns, (inV last x r = true ↔ r.1 ≤ x ∧ x ≤ r.2) := by
      intro r hr
      obtain ⟨a, b, c⟩ := h1 r hr
      unfold inV realV
      rw [if_neg (by simp; omega), if_neg (by simp; omega)]
      simp only [Bool.and_eq_true, decide_eq_true_eq]
      omega
    constructor
    · rintro ⟨_, r, hr, hx⟩
      exact ⟨r, hr, (hin r hr).1 hx⟩
    · rintro ⟨r, hr, hx⟩
      have := h1 r hr
      exact ⟨by omega, r, hr, (hin r hr).2 hx⟩
  by_cases hm : x ∈ ns
  · rw [decide_eq_true hm, key.2 hm]
  · rw [decide_eq_false hm]
    cases hb : hasV (ofV ns) x last with
    | false => rfl
    | true => exact absurd (key.1 hb) hm

theorem rows_set (l : List (Int × Int)) (i : Nat) (r : Int × Int) : (rowsOf l).set i (.agg [iv r.1, iv r.2]) = rowsOf (l.set i r) := by simp [rowsOf, List.map_set]
theorem rows_app2 (a b : List (Int × Int)) : rowsOf a ++ rowsOf b = rowsOf (a ++ b) := by simp [rowsOf]
theorem len_ok16 {n : Nat} (h : n ≤ 1000) : (lenOk n 16 && lenOk n 1) = true := by
  unfold lenOk maxBytes
  simp only [Bool.and_eq_true]
  exact ⟨Nat.ble_eq_true_of_le (by omega), Nat.ble_eq_true_of_le (by omega)⟩
theorem rows_last (l : List (Int × Int)) (h : 0 < l.length) : (rowsOf l)[l.length - 1]? = some (.agg [iv (l.getD (l.length - 1) (0, -5)).1, iv (l.getD (l.length - 1) (0, -5)).2]) := by
  rw [rowsOf_get _ _ (by omega)]
  simp [List.getD, List.getElem?_eq_getElem (show l.length - 1 < l.length by omega)]

noncomputable def inv_of : Suids_Of_0 → Bool
  | .s0 b rows k i => propB (∃ ns, rows = ivs ns ∧ k = ns.length ∧ 0 ≤ i ∧ i ≤ k ∧ ns.length ≤ 500 ∧ ∀ n ∈ ns, goodN n)
  | .s1 b rows k i o => propB (∃ ns l, rows = ivs ns ∧ o = rowsOf l ∧ goodL l ∧ 0 < l.length ∧ l.length ≤ i ∧ k = ns.length ∧ 0 ≤ i ∧ i ≤ k ∧ ns.length ≤ 500 ∧ ∀ n ∈ ns, goodN n)
theorem i_of0 {b : Bool} {rows : List AV} {k i : Int} (h : ∃ ns, rows = ivs ns ∧ k = ns.length ∧ 0 ≤ i ∧ i ≤ k ∧ ns.length ≤ 500 ∧ ∀ n ∈ ns, goodN n) : inv_of (.s0 b rows k i) = true := propB_of h
theorem i_of1 {b : Bool} {rows o : List AV} {k i : Int} (h : ∃ ns l, rows = ivs ns ∧ o = rowsOf l ∧ goodL l ∧ 0 < l.length ∧ l.length ≤ i ∧ k = ns.length ∧ 0 ≤ i ∧ i ≤ k ∧ ns.length ≤ 500 ∧ ∀ n ∈ ns, goodN n) : inv_of (.s1 b rows k i o) = true := propB_of h
def out_of : Suids_Of_0 → Ouids_Of_0
  | .s0 b rows k i => match ((intsOf rows).getD []).drop i.toNat with
    | [] => .x0
    | n :: r => .x1 (rowsOf (r.foldl ofStep [(n, n)]))
  | .s1 b rows k i o => .x1 (rowsOf ((((intsOf rows).getD []).drop i.toNat).foldl ofStep ((pairsOf o).getD [])))
theorem l_of (K : PureK) : ∀ s o, lOf inv_of out_of s = some o → ∃ k, fuelRec (Ruids_Of_0 K some) k s = some o :=
  fuel_of inv_of out_of (fun | .s0 _ _ k i => (k - i).toNat | .s1 _ _ k i _ => (k - i).toNat) (by
    intro s rec hi hrec
    cases s with
    | s0 b rows k i =>
      obtain ⟨ns, rfl, rfl, h0, h1, h2, h3⟩ := of_propB hi
      simp only [Ruids_Of_0, out_of, intsOf_ivs, Option.getD_some]
      have hl2 : (((ivs ns).length : Nat) : Int) = (ns.length : Int) := by rw [ivs_len]
      by_cases h : i < ns.length
      · have hlt : i.toNat < ns.length := by omega
        have hg := h3 ns[i.toNat] (List.getElem_mem hlt)
        rw [br_yesD h, br_yesD h0, hl2, br_yesD h, ivs_get _ _ hlt, List.drop_eq_getElem_cons hlt]
        simp only [optK_s, asInt_v]
        rw [w64_id (n := i + 1) (by omega) (by omega)]
        have e := hrec (.s1 b (ivs ns) ns.length (i + 1) (rowsOf [(ns[i.toNat], ns[i.toNat])])) (i_of1 ⟨ns, _, rfl, rfl, by
            intro r hr; simp at hr; subst hr; exact ⟨hg.1, Int.le_refl _, hg.2⟩, by simp, by simp; omega, rfl, by omega, by omega, h2, h3⟩) (by show ((ns.length : Int) - (i + 1)).toNat < ((ns.length : Int) - i).toNat; omega)
        simp only [out_of, intsOf_ivs, pairsOf_rows, Option.getD_some] at e
        rw [show (i + 1).toNat = i.toNat + 1 by omega] at e
        exact e
      · rw [br_noD h]
        have : i.toNat = ns.length := by omega
        rw [this, List.drop_length]
    | s1 b rows k i o =>
      obtain ⟨ns, l, rfl, rfl, hl, hl0, hli, rfl, h0, h1, h2, h3⟩ := of_propB hi
      simp only [Ruids_Of_0, out_of, intsOf_ivs, pairsOf_rows, Option.getD_some]
      have hl2 : (((ivs ns).length : Nat) : Int) = (ns.length : Int) := by rw [ivs_len]
      have hl3 : (((rowsOf l).length : Nat) : Int) = (l.length : Int) := by rw [rowsOf_len]
      by_cases h : i < ns.length
      · have hlt : i.toNat < ns.length := by omega
        have hg := h3 ns[i.toNat] (List.getElem_mem hlt)
        have hg1 := hg.1
        have hg2 := hg.2
        rw [br_yesD h, br_yesD h0, hl2, br_yesD h, ivs_get _ _ hlt, List.drop_eq_getElem_cons hlt]
        simp only [optK_s, asInt_v]
        rw [hl3, w64_id (n := (l.length : Int) - 1) (by omega) (by omega), br_yesD (by omega), br_yesD (by omega), br_yesD (by omega), show ((l.length : Int) - 1).toNat = l.length - 1 by omega, Nat.zero_add, rows_last _ hl0]
        simp only [optK_s]
        rw [asAgg_v _ 2 rfl]
        simp only [List.getD_cons_zero, List.getD_cons_succ, asInt_v, optK_s, asBool_v]
        have hgl : goodL [l.getD (l.length - 1) (0, -5)] := by
          intro r hr
          simp at hr
          subst hr
          refine hl _ ?_
          simp [List.getElem?_eq_getElem (show l.length - 1 < l.length by omega)]
        obtain ⟨q1, q2, q3⟩ := hgl _ (List.mem_singleton.2 rfl)
        have hR := ofStep_good hl hg
        have hN := ofStep_ne l ns[i.toNat] hg1
        have hL := ofStep_le l ns[i.toNat]
        have hS : ofStep l ns[i.toNat] = _ := rfl
        rw [List.foldl_cons]
        conv at hS => rhs; unfold ofStep
        have fin : ∀ X, X = rowsOf (ofStep l ns[i.toNat]) → rec (.s1 b (ivs ns) ns.length (w64 (i + 1)) X) = some (.x1 (rowsOf ((ns.drop (i.toNat + 1)).foldl ofStep (ofStep l ns[i.toNat])))) := by
          rintro X rfl
          rw [w64_id (n := i + 1) (by omega) (by omega), hrec _ (i_of1 ⟨ns, _, rfl, rfl, hR, hN, by omega, rfl, by omega, by omega, h2, h3⟩) (by show ((ns.length : Int) - (i + 1)).toNat < ((ns.length : Int) - i).toNat; omega)]
          simp only [out_of, intsOf_ivs, pairsOf_rows, Option.getD_some]
          rw [show (i + 1).toNat = i.toNat + 1 by omega]
        rw [w64_id (n := (l.getD (l.length - 1) (0, -5)).2 + 1) (by omega) (by omega)]
        by_cases e : (l.getD (l.length - 1) (0, -5)).2 + 1 = ns[i.toNat]
        · rw [decide_eq_true e] at hS
          rw [br_pos (by simpa using e), br_yesD (by omega), br_yesD (by omega)]
          refine fin _ ?_
          rw [hS, ← rows_set]
        · rw [decide_eq_false e] at hS
          rw [br_neg (by simpa using e), br_pos (by rw [rowsOf_len]; exact len_ok16 (by simp; omega))]
          refine fin _ ?_
          rw [hS, ← rows_app2]
          rfl
      · rw [br_noD h]
        have : i.toNat = ns.length := by omega
        rw [this, List.drop_length]
        rfl)
def goodAll (ns : List Int) : Bool := ns.all fun n => decide (1 ≤ n) && decide (n ≤ 4294967295)
theorem goodAll_of {ns : List Int} (h : goodAll ns = true) : ∀ n ∈ ns, goodN n := by
  intro n hn
  have := List.all_eq_true.1 h n hn
  simp only [Bool.and_eq_true, decide_eq_true_eq] at this
  exact this
theorem ofV_cons {n : Int} {r : List Int} (h : 1 ≤ n) : ofV (n :: r) = r.foldl ofStep [(n, n)] := by
  show (n :: r).foldl ofStep [] = _
  rw [List.foldl_cons, ofStep_nil h]
def e_Of : List AV → Option AV
  | [.lst 1 b rows] => match intsOf rows with
    | some ns => br (decide (ns.length ≤ 500) && goodAll ns) (some (.lst 2 ns.isEmpty (rowsOf (ofV ns)))) none
    | none => none
  | _ => none
theorem e_Of_ok (xs : List AV) (v : AV) (h : e_Of xs = some v) : PureCall X f_uids_Of xs v := by
  unfold e_Of at h
  split at h
  · rename_i b rows
    split at h
    · rename_i ns hl
      obtain ⟨h1, h⟩ := br_yes h
      cases h
      obtain rfl := ivs_of_ints hl
      simp only [Bool.and_eq_true, decide_eq_true_eq] at h1
      have hg := goodAll_of h1.2
      refine pcuids_Of (tab_ok [] tab_nil) (l_of _) ?_
      unfold Ruids_Of
      rw [lOf_pos (i_of0 ⟨ns, rfl, by rw [ivs_len], Int.le_refl 0, by omega, h1.1, hg⟩)]
      simp only [optK_s, out_of, intsOf_ivs, Option.getD_some]
      rw [show (0 : Int).toNat = 0 from rfl, List.drop_zero]
      cases ns with
      | nil => rfl
      | cons n r =>
        rw [ofV_cons (hg n (by simp)).1]
        rfl
    · cases h
  · cases h
end Go.Proofs.YtckbjhmiopjlkaaDoor
