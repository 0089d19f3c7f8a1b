/- Each operation of the abstract machine is the model's: elements, cuts, lengths. -/
import Derived.Test.YtkkbdebmilagoaaGreatDoorAbOps2
import Derived.Laws.Slices
set_option linter.unusedSimpArgs false
set_option linter.unusedVariables false
namespace Go.Ab
open Go

section
variable {X : Ctx} {s : St} {g : FuncId} {o : Oper} {ρ : Operand → AV} {av : Operand → Value} {v : AV} {h' : Heap} {tg : Tag}

theorem run_op {P : Program} {w : World} {so : Sem Value} {run : Result Next} (h : run = (do pure (.value (← so)) : Sem Next).run P w) {cv : Value} {w' : World} (hr : so.run P w = .ok cv w') : run = .ok (.value cv) w' := by
  rw [h, Sem.run_bind, hr]; rfl

theorem run_sizeOf_pos {P : Program} {t : TypeId} (h : P.cellsOf t ≠ 0) (w : World) : (sizeOf t).run P w = .ok (P.cellsOf t) w := by
  unfold Program.cellsOf at h ⊢
  cases hi : P.info? t with
  | none => simp [hi] at h
  | some i => simp [sizeOf, typeInfo, hi]

theorem not_beq {n : Nat} (h : (!Nat.beq n 0) = true) : n ≠ 0 := by
  intro e; subst e; simp at h

theorem bt_eq (t : ByteArray) (i : Nat) (h : i < t.size) : bt t i = (t[i].toNat : Int) := by
  unfold bt
  have : t.data.toList[i]? = some t[i] := by rw [Array.getElem?_toList]; exact Array.getElem?_eq_getElem h
  rw [this]; rfl

theorem sound_index {t : TypeId} {x i : Operand} (hop : o.op = .index t x i) (hok : Ok X s) (hρ : ∀ x, Rel s (ρ x) (av x))
    (e : opK X g o ρ s.H (fun v h t => some (v, h, t)) = some (v, h', tg)) : Done X s ((execOp av o).run X.P s.w) v h' := by
  have hx := hρ x
  have hi := hρ i
  have hrun : (execOp av o).run X.P s.w = (do pure (.value (← Instr.index t (av x) (av i))) : Sem Next).run X.P s.w := by simp only [execOp, hop]
  simp only [opK, hop] at e
  split at e
  · rename_i k n hpi
    rw [hpi] at hi
    obtain ⟨hvi, _⟩ := hi.v_inv
    split at e
    · rename_i str hpx
      rw [hpx] at hx
      obtain ⟨hvx, _⟩ := hx.v_inv
      split at e
      · rename_i hu
        obtain ⟨h1, e1⟩ := br_yes e
        obtain ⟨h2, e2⟩ := br_yes e1
        simp at h1 h2
        simp only [Option.some.injEq, Prod.mk.injEq] at e2
        obtain ⟨rfl, rfl, rfl⟩ := e2
        refine Done.pure hok (run_op hrun ?_) (.v _ rfl)
        rw [hvx, hvi, run_index_string _ _ _ _ _ hu, dif_pos ⟨h1, h2⟩, bt_eq _ _ (by omega)]
      · cases e
    · rename_i cs hpx
      rw [hpx] at hx
      obtain ⟨vs, hvx, _⟩ := Cells.of_agg hx
      rw [hvx] at hx
      split at e
      · rename_i len el hu
        obtain ⟨h0, e0⟩ := br_yes e
        obtain ⟨h1, e1⟩ := br_yes e0
        obtain ⟨h2, e2⟩ := br_yes e1
        simp at h1 h2
        obtain ⟨y, cv, e3, hr, hrel⟩ := sub_part e2 hx s.w
        simp only [Option.some.injEq, Prod.mk.injEq] at e3
        obtain ⟨rfl, rfl, rfl⟩ := e3
        refine Done.pure hok (run_op hrun ?_) hrel
        simp only [Instr.index, hvx, hvi, asIntOf, Sem.run_bind, Sem.run_pure, Result.andThen_ok, run_underlying hu]
        rw [Sem.run_ite, if_pos ⟨h1, h2⟩]
        simp only [Sem.run_bind, run_sizeOf_pos (not_beq h0), Result.andThen_ok, hr]
      · cases e
    · cases e
  · cases e

theorem sound_indexAddr {t : TypeId} {x i : Operand} (hop : o.op = .indexAddr t x i) (hok : Ok X s) (hρ : ∀ x, Rel s (ρ x) (av x))
    (e : opK X g o ρ s.H (fun v h t => some (v, h, t)) = some (v, h', tg)) : Done X s ((execOp av o).run X.P s.w) v h' := by
  have hx := hρ x
  have hi := hρ i
  have hrun : (execOp av o).run X.P s.w = (do pure (.value (← Instr.indexAt t (av x) (av i))) : Sem Next).run X.P s.w := by simp only [execOp, hop]
  simp only [opK, hop] at e
  split at e
  · rename_i k n hpi
    rw [hpi] at hi
    obtain ⟨hvi, _⟩ := hi.v_inv
    split at e
    · -- a list
      rename_i es nl rows hpx
      rw [hpx] at hx
      split at e
      · rename_i el hel
        have hu := elemT_some hel
        split at e
        · rename_i hb
          simp only [Bool.and_eq_true] at hb
          have hes := Nat.eq_of_beq_eq_true hb.1
          have hpos := not_beq hb.2
          obtain ⟨h1, e1⟩ := br_yes e
          obtain ⟨h2, e2⟩ := br_yes e1
          simp at h1 h2
          obtain ⟨row, hrow, e3⟩ := getRow_some e2
          have e4 := shapeK_some e3
          simp only [Option.some.injEq, Prod.mk.injEq] at e4
          obtain ⟨rfl, rfl, rfl⟩ := e4
          generalize hvx : av x = vx at hx
          cases hx with
          | nil => simp at h2; omega
          | empty => simp at h2; omega
          | lst es rows b off cap vals hcap hpriv hes' hfree hcell hc hr =>
            have hlt : n.toNat < rows.length := by omega
            have hne : rows ≠ [] := fun e => by simp [e] at hlt
            have hmem : row ∈ rows := List.mem_of_getElem? hrow
            refine Done.pure hok (cv := .pointer (some (ad b (off + n.toNat * es + 0)))) (run_op hrun ?_) ?_
            · simp only [Instr.indexAt, hvx, hvi, asIntOf, Sem.run_bind, Sem.run_pure, Result.andThen_ok, run_underlying hu]
              rw [Sem.run_ite, if_pos ⟨h1, h2⟩]
              rw [hes] at hpos ⊢
              simp only [Sem.run_bind, run_sizeOf_pos hpos, Result.andThen_ok, Sem.run_pure, ad_add, Nat.add_zero]
            · refine .pl row 0 b (off + n.toNat * es) (fun j => vals n.toNat j) (hpriv hne).1 (hpriv hne).2 (hfree row hmem) (hcell row hmem) ?_ ?_
              · intro j hj
                exact hc n.toNat j hlt (by have := hes' row hmem; omega)
              · intro j y hy
                exact hr n.toNat j row y hrow hy
        · cases e
      · cases e
    · -- an own slice
      rename_i id gen row len hpx
      rw [hpx] at hx
      split at e
      · rename_i el hel
        have hu := elemT_some hel
        obtain ⟨ob, hob, hl, hg, e0⟩ := objK_some e
        obtain ⟨hb, e1⟩ := br_yes e0
        obtain ⟨h1, e2⟩ := br_yes e1
        obtain ⟨h2, e3⟩ := br_yes e2
        simp only [Bool.and_eq_true, Bool.not_eq_true'] at hb
        simp at h1 h2
        simp only [Option.some.injEq, Prod.mk.injEq] at e3
        obtain ⟨rfl, rfl, rfl⟩ := e3
        have hes := Nat.eq_of_beq_eq_true hb.1.2
        have hpos : ob.es ≠ 0 := not_beq (by simpa using hb.2)
        clear e e0 e1 e2
        generalize hvx : av x = vx at hx
        cases hx with
        | own i g row len o' cur ty off cap ho hl' hg' hbox hn hcap fr hfr hbk hoff =>
          rw [ho] at hob
          obtain rfl := Option.some.inj hob
          have hcne : cap ≠ 0 := by omega
          obtain ⟨ho1, ho2⟩ := hoff hcne
          refine Done.pure hok (cv := .pointer (some (ad (s.loc id) ((row + n.toNat) * o'.es + 0)))) (run_op hrun ?_) (.ptr id gen _ 0 o' ho hl' hg' (by omega))
          simp only [Instr.indexAt, hvx, hvi, asIntOf, Sem.run_bind, Sem.run_pure, Result.andThen_ok, run_underlying hu]
          rw [Sem.run_ite, if_pos ⟨h1, h2⟩]
          rw [hes] at hpos
          simp only [Sem.run_bind, run_sizeOf_pos hpos, Result.andThen_ok, Sem.run_pure, ad_add, Nat.add_zero, ho1, ← hes, Nat.add_mul]
        | ownStale i g row len o' a n cap ho hs =>
          rw [ho] at hob
          obtain rfl := Option.some.inj hob
          rcases hs with hs | hs
          · rw [hl] at hs; cases hs
          · omega
      · cases e
    · rename_i id gen r off hpx
      rw [hpx] at hx
      split at e
      · rename_i len el hu
        obtain ⟨h0, e0⟩ := br_yes e
        obtain ⟨h1, e1⟩ := br_yes e0
        obtain ⟨h2, e2⟩ := br_yes e1
        simp at h1 h2
        simp only [Option.some.injEq, Prod.mk.injEq] at e2
        obtain ⟨rfl, rfl, rfl⟩ := e2
        have hr : ∀ a : Addr, av x = .pointer (some a) → (Instr.indexAt t (av x) (av i)).run X.P s.w = .ok (.pointer (some (a.add (n.toNat * X.P.cellsOf el)))) s.w := by
          intro a ha
          simp only [Instr.indexAt, ha, hvi, asIntOf, Sem.run_bind, Sem.run_pure, Result.andThen_ok, run_underlying hu, Instr.sureAddr]
          rw [Sem.run_ite, if_pos ⟨h1, h2⟩]
          simp only [Sem.run_bind, run_sizeOf_pos (not_beq h0), Result.andThen_ok, Sem.run_pure]
        generalize hvx : av x = vx at hx
        cases hx with
        | ptr i g row off' o' ho hl hg hrow =>
          refine Done.pure hok (run_op hrun (hr _ hvx)) ?_
          rw [ad_add, Nat.add_assoc]
          exact .ptr id gen r _ o' ho hl hg hrow
        | ptrStale i g row off' o' a ho hs =>
          exact Done.pure hok (run_op hrun (hr _ hvx)) (.ptrStale id gen r _ o' _ ho hs)
      · cases e
    · rename_i row off hpx
      rw [hpx] at hx
      split at e
      · rename_i len el hu
        obtain ⟨h0, e0⟩ := br_yes e
        obtain ⟨h1, e1⟩ := br_yes e0
        obtain ⟨h2, e2⟩ := br_yes e1
        simp at h1 h2
        simp only [Option.some.injEq, Prod.mk.injEq] at e2
        obtain ⟨rfl, rfl, rfl⟩ := e2
        generalize hvx : av x = vx at hx
        cases hx with
        | pl row off' b base vals hs hpriv hfree hcell hc hrr =>
          refine Done.pure hok (run_op hrun (cv := .pointer (some (ad b (base + (off + n.toNat * X.P.cellsOf el))))) ?_) (.pl row _ b base vals hs hpriv hfree hcell hc hrr)
          simp only [Instr.indexAt, hvx, hvi, asIntOf, Sem.run_bind, Sem.run_pure, Result.andThen_ok, run_underlying hu, Instr.sureAddr]
          rw [Sem.run_ite, if_pos ⟨h1, h2⟩]
          simp only [Sem.run_bind, run_sizeOf_pos (not_beq h0), Result.andThen_ok, Sem.run_pure, ad_add, Nat.add_assoc]
      · cases e
    · cases e
  · cases e

theorem optInt_some {x : Option Operand} {n : Option Int} (hρ : ∀ x, Rel s (ρ x) (av x)) (e : optInt ρ x = some n) :
    (x = none ∧ n = none) ∨ ∃ y k m, x = some y ∧ n = some m ∧ av y = .int k m := by
  unfold optInt at e
  split at e
  · simp at e; exact .inl ⟨rfl, e.symm⟩
  · rename_i y
    split at e
    · rename_i k m hy
      have h := hρ y
      rw [hy] at h
      simp at e
      exact .inr ⟨y, k, m, rfl, e.symm, h.v_inv.1⟩
    · cases e

def lowOf (lo : Option Int) : Nat := match lo with | none => 0 | some l => l.toNat
def highOf (len : Nat) (hi : Option Int) : Nat := match hi with | none => len | some h => h.toNat

theorem run_bounds {P : Program} {w : World} {lo hi : Option Operand} {ln hn : Option Int} (b : Bool) (len cap n : Nat) (hρ : ∀ x, Rel s (ρ x) (av x)) (hl : optInt ρ lo = some ln) (hh : optInt ρ hi = some hn)
    (hcap : n ≤ cap) (hlen : hn = none → n = len) (b1 : ∀ h, hn = some h → 0 ≤ h ∧ h ≤ n) (b2 : ∀ l, ln = some l → 0 ≤ l ∧ l ≤ hn.getD n) :
    (Instr.sliceBounds b len cap (lo.map av) (hi.map av) none).run P w = .ok (lowOf ln, highOf len hn, cap) w := by
  rcases optInt_some hρ hl with ⟨rfl, rfl⟩ | ⟨y, k, m, rfl, rfl, hy⟩ <;> rcases optInt_some hρ hh with ⟨rfl, rfl⟩ | ⟨y', k', m', rfl, rfl, hy'⟩
  · simp [Instr.sliceBounds, lowOf, highOf]
  · have := b1 m' rfl
    simp [Instr.sliceBounds, hy', lowOf, highOf, run_sliceBound _ _ _ _ _ this.1 (show m' ≤ (cap : Int) by omega)]
  · have := b2 m rfl
    have e := hlen rfl
    simp [Instr.sliceBounds, hy, lowOf, highOf, run_sliceBound _ _ _ _ _ this.1 (show m ≤ (len : Int) by simp at this; omega)]
  · have h1 := b1 m' rfl
    have h2 := b2 m rfl
    simp at h2
    simp [Instr.sliceBounds, hy, hy', lowOf, highOf, run_sliceBound _ _ _ _ _ h1.1 (show m' ≤ (cap : Int) by omega), run_sliceBound _ _ _ _ _ h2.1 (show m ≤ (m'.toNat : Int) by omega)]

theorem cutRows_eq (rows : List AV) (lo hi : Option Int) : cutRows rows lo hi = (rows.take (highOf rows.length hi)).drop (lowOf lo) := by
  unfold cutRows lowOf highOf
  split <;> simp

theorem extract_eq (t : ByteArray) (l h : Nat) : t.extract l h = ⟨((t.data.toList.take h).drop l).toArray⟩ := by
  apply ByteArray.ext
  rw [ByteArray.data_extract]
  apply Array.ext'
  rw [Array.toList_extract, List.extract_eq_take_drop]
  simp only [List.drop_take]

theorem cutStr_eq (t : ByteArray) (lo hi : Option Int) : cutStr t lo hi = t.extract (lowOf lo) (highOf t.size hi) := by
  rw [extract_eq]
  unfold cutStr lowOf highOf
  have hl : t.size = t.data.toList.length := by simp
  rw [hl]
  split <;> simp only [List.take_length, List.drop_zero]

theorem sound_slice {t : TypeId} {x : Operand} {lo hi mx : Option Operand} (hop : o.op = .slice t x lo hi mx) (hok : Ok X s) (hρ : ∀ x, Rel s (ρ x) (av x))
    (e : opK X g o ρ s.H (fun v h t => some (v, h, t)) = some (v, h', tg)) : Done X s ((execOp av o).run X.P s.w) v h' := by
  have hx := hρ x
  have hrun : (execOp av o).run X.P s.w = (do pure (.value (← Instr.sliceAt t (av x) (lo.map av) (hi.map av) (mx.map av))) : Sem Next).run X.P s.w := by simp only [execOp, hop]
  simp only [opK, hop] at e
  split at e
  · rename_i ln hn hl hh
    split at e
    · -- a text
      rename_i str hpx
      rw [hpx] at hx
      obtain ⟨hvx, _⟩ := hx.v_inv
      split at e
      · rename_i hu
        obtain ⟨e1, b1, b2⟩ := boundsK_some e
        simp only [Option.some.injEq, Prod.mk.injEq] at e1
        obtain ⟨rfl, rfl, rfl⟩ := e1
        refine Done.pure hok (run_op hrun ?_) (.v _ rfl)
        rw [run_sliceAt_string _ _ _ _ _ _ hu, hvx]
        simp only [Instr.slice, Sem.run_bind, run_underlying hu, Result.andThen_ok, Option.map_none, Option.isSome_none, Bool.false_eq_true, if_false, Sem.run_pure,
          run_bounds false str.size str.size str.size hρ hl hh (Nat.le_refl _) (fun _ => rfl) b1 b2, cutStr_eq]
      · cases e
    · -- a list
      rename_i es nl rows hpx
      rw [hpx] at hx
      split at e
      · rename_i el hel
        have hu := elemT_some hel
        have hel' : X.P.elem t = el := by simp [Program.elem, hu]
        split at e
        · rename_i hb
          simp only [Bool.and_eq_true] at hb
          have hes := Nat.eq_of_beq_eq_true hb.1
          have hpos := not_beq hb.2
          obtain ⟨e1, b1, b2⟩ := boundsK_some e
          simp only [Option.some.injEq, Prod.mk.injEq] at e1
          obtain ⟨rfl, rfl, rfl⟩ := e1
          have hsz := run_sizeOf_pos (P := X.P) (t := el) (by rw [← hes]; exact hpos) s.w
          generalize hvx : av x = vx at hx
          cases hx with
          | nil =>
            have hr := run_bounds (P := X.P) (w := s.w) true 0 0 0 hρ hl hh (Nat.le_refl _) (fun _ => rfl) (by simpa using b1) (by simpa using b2)
            have h1 : lowOf ln = 0 := by
              cases ln with
              | none => rfl
              | some l => have := b2 l rfl; cases hn with
                | none => simp at this; simp [lowOf]; omega
                | some h => have h3 := b1 h rfl; simp at this h3; simp [lowOf]; omega
            have h2 : highOf 0 hn = 0 := by
              cases hn with
              | none => rfl
              | some h => have h3 := b1 h rfl; simp at h3; simp [highOf]; omega
            refine Done.pure hok (cv := .slice none 0 0) (run_op hrun ?_) ?_
            · rw [run_sliceAt_slice _ _ _ _ _ _ (by rw [hel']; exact hu), hvx]
              simp only [Instr.slice, Sem.run_bind, run_underlying hu, Result.andThen_ok, Option.map_none, hr, Sem.run_pure, hsz, h1, h2]
              rfl
            · have : cutRows [] ln hn = [] := by rw [cutRows_eq]; simp
              rw [this]; exact .nil _
          | empty es a cap =>
            have hr := run_bounds (P := X.P) (w := s.w) true 0 cap 0 hρ hl hh (Nat.zero_le _) (fun _ => rfl) (by simpa using b1) (by simpa using b2)
            have h1 : lowOf ln = 0 := by
              cases ln with
              | none => rfl
              | some l => have := b2 l rfl; cases hn with
                | none => simp at this; simp [lowOf]; omega
                | some h => have h3 := b1 h rfl; simp at this h3; simp [lowOf]; omega
            have h2 : highOf 0 hn = 0 := by
              cases hn with
              | none => rfl
              | some h => have h3 := b1 h rfl; simp at h3; simp [highOf]; omega
            refine Done.pure hok (cv := .slice (some a) 0 cap) (run_op hrun ?_) ?_
            · rw [run_sliceAt_slice _ _ _ _ _ _ (by rw [hel']; exact hu), hvx]
              simp only [Instr.slice, Sem.run_bind, run_underlying hu, Result.andThen_ok, Option.map_none, hr, Sem.run_pure, hsz, h1, h2, Option.map_some]
              simp [Addr.add]
            · have : cutRows [] ln hn = [] := by rw [cutRows_eq]; simp
              rw [this]; exact .empty _ _ _
          | lst es rows b off cap vals hcap hpriv hes' hfree hcell hc hrr =>
            have hr := run_bounds (P := X.P) (w := s.w) true rows.length cap rows.length hρ hl hh hcap (fun _ => rfl) b1 b2
            have hhi : highOf rows.length hn ≤ rows.length := by
              cases hn with
              | none => exact Nat.le_refl _
              | some h => have := b1 h rfl; simp only [highOf]; omega
            have hlo : lowOf ln ≤ highOf rows.length hn := by
              cases ln with
              | none => exact Nat.zero_le _
              | some l => have := b2 l rfl; cases hn with
                | none => simp at this; simp only [lowOf, highOf]; omega
                | some h => have h3 := b1 h rfl; simp at this; simp only [lowOf, highOf]; omega
            have hlen : (cutRows rows ln hn).length = highOf rows.length hn - lowOf ln := by rw [cutRows_eq]; simp; omega
            have hsub : ∀ (i : Nat) (y : AV), (cutRows rows ln hn)[i]? = some y → rows[lowOf ln + i]? = some y := by
              intro i y hy
              rw [cutRows_eq, List.getElem?_drop, List.getElem?_take] at hy
              split at hy
              · exact hy
              · cases hy
            have hmem : ∀ r ∈ cutRows rows ln hn, r ∈ rows := fun r hr => by
              obtain ⟨i, hi⟩ := List.getElem?_of_mem hr
              exact List.mem_of_getElem? (hsub i r hi)
            refine Done.pure hok (cv := .slice (if cap = lowOf ln then some (ad b off) else some (ad b (off + lowOf ln * es))) (highOf rows.length hn - lowOf ln) (cap - lowOf ln)) (run_op hrun ?_) ?_
            · rw [run_sliceAt_slice _ _ _ _ _ _ (by rw [hel']; exact hu), hvx]
              simp only [Instr.slice, Sem.run_bind, run_underlying hu, Result.andThen_ok, Option.map_none, hr, Sem.run_pure, hsz, ← hes, Option.map_some, ad_add]
            · have hq : ∃ off', (if cap = lowOf ln then some (ad b off) else some (ad b (off + lowOf ln * es))) = some (ad b off') ∧ (cutRows rows ln hn ≠ [] → off' = off + lowOf ln * es) := by
                by_cases hc : cap = lowOf ln
                · refine ⟨off, by rw [if_pos hc], fun hne => ?_⟩
                  have := List.length_pos_iff.2 hne
                  omega
                · exact ⟨_, by rw [if_neg hc], fun _ => rfl⟩
              obtain ⟨off', ho1, ho2⟩ := hq
              rw [ho1, ← hlen]
              refine .lst es (cutRows rows ln hn) b off' (cap - lowOf ln) (fun i j => vals (lowOf ln + i) j) (by rw [hlen]; omega) (fun hne => hpriv (fun he => hne ?_)) (fun r hr => hes' r (hmem r hr))
                (fun r hr => hfree r (hmem r hr)) (fun r hr => hcell r (hmem r hr)) ?_ ?_
              · rw [cutRows_eq, he]; simp
              · intro i j hi hj
                have hne : cutRows rows ln hn ≠ [] := fun he => by simp [he] at hi
                have := hc (lowOf ln + i) j (by omega) hj
                rw [ho2 hne, Nat.add_assoc off, ← Nat.add_mul]
                exact this
              · intro i j x y hx hy
                exact hrr _ j x y (hsub i x hx) hy
        · cases e
      · cases e
    · -- an own slice
      rename_i id gen row len hpx
      rw [hpx] at hx
      obtain ⟨ob, hob, hlv, hg, e0⟩ := objK_some e
      obtain ⟨hb, e1⟩ := br_yes e0
      obtain ⟨e2, b1, b2⟩ := boundsK_some e1
      simp only [Option.some.injEq, Prod.mk.injEq] at e2
      obtain ⟨rfl, rfl, rfl⟩ := e2
      split at hb
      · rename_i el hel
        have hu := elemT_some hel
        have hel' : X.P.elem t = el := by simp [Program.elem, hu]
        simp only [Bool.and_eq_true, Bool.not_eq_true'] at hb
        have hes := Nat.eq_of_beq_eq_true hb.1.1.2
        have hpos : ob.es ≠ 0 := not_beq (by simpa using hb.1.2)
        have hsz := run_sizeOf_pos (P := X.P) (t := el) (by rw [← hes]; exact hpos) s.w
        clear e e0 e1
        generalize hvx : av x = vx at hx
        cases hx with
        | own i g row len o' cur ty off cap ho hl' hg' hbox hn' hcap fr hfr hbk hoff =>
          rw [ho] at hob
          obtain rfl := Option.some.inj hob
          have hr := run_bounds (P := X.P) (w := s.w) true (lenOfOwn o' row len) cap (lenOfOwn o' row len) hρ hl hh hcap (fun _ => rfl) b1 b2
          have hhi : highOf (lenOfOwn o' row len) hn ≤ lenOfOwn o' row len := by
            cases hn with
            | none => exact Nat.le_refl _
            | some h => have := b1 h rfl; simp only [highOf]; omega
          have hlo : lowOf ln ≤ highOf (lenOfOwn o' row len) hn := by
            cases ln with
            | none => exact Nat.zero_le _
            | some l => have := b2 l rfl; cases hn with
              | none => simp at this; simp only [lowOf, highOf]; omega
              | some h => have h3 := b1 h rfl; simp at this; simp only [lowOf, highOf]; omega
          refine Done.pure hok (cv := .slice (if cap = lowOf ln then some (ad (s.loc id) off) else some (ad (s.loc id) (off + lowOf ln * o'.es))) (highOf (lenOfOwn o' row len) hn - lowOf ln) (cap - lowOf ln)) (run_op hrun ?_) ?_
          · rw [run_sliceAt_slice _ _ _ _ _ _ (by rw [hel']; exact hu), hvx]
            simp only [Instr.slice, Sem.run_bind, run_underlying hu, Result.andThen_ok, Option.map_none, hr, Sem.run_pure, hsz, ← hes, Option.map_some, ad_add]
          · have hq : ∃ off', (if cap = lowOf ln then some (ad (s.loc id) off) else some (ad (s.loc id) (off + lowOf ln * o'.es))) = some (ad (s.loc id) off') ∧ (cap - lowOf ln ≠ 0 → off' = off + lowOf ln * o'.es) := by
              by_cases hc : cap = lowOf ln
              · exact ⟨off, by rw [if_pos hc], fun hne => by omega⟩
              · exact ⟨_, by rw [if_neg hc], fun _ => rfl⟩
            obtain ⟨off', ho1, ho2⟩ := hq
            rw [ho1]
            -- the new reference's row and length
            have key : ∀ (row' : Nat) (len' : Option Nat), row' = row + lowOf ln → lenOfOwn o' row' len' = highOf (lenOfOwn o' row len) hn - lowOf ln →
                Rel s (.own id gen row' len') (.slice (some (ad (s.loc id) off')) (highOf (lenOfOwn o' row len) hn - lowOf ln) (cap - lowOf ln)) := by
              intro row' len' e1 e2
              rw [← e2]
              refine .own id gen row' len' o' cur ty off' (cap - lowOf ln) ho hl' hg' hbox (by rw [e2]; omega) (by rw [e2]; omega) fr hfr hbk ?_
              intro hne
              obtain ⟨h1, h2⟩ := hoff (by omega)
              refine ⟨by rw [ho2 hne, h1, e1, Nat.add_mul], ?_⟩
              rw [e1, ← h2]
              congr 1
              omega
            apply key
            · cases ln <;> rfl
            · cases ln with
              | none =>
                cases hn with
                | none => cases len <;> simp [lenOfOwn, highOf, lowOf]
                | some h => simp [lenOfOwn, highOf, lowOf]
              | some l =>
                cases hn with
                | none =>
                  cases len with
                  | none =>
                    simp only [highOf, lowOf, lenOfOwn]
                    cases row with
                    | zero =>
                      cases hlt : l.toNat with
                      | zero => simp
                      | succ k => simp
                    | succ r => simp; omega
                  | some n => simp [lenOfOwn, highOf, lowOf]
                | some h => simp [lenOfOwn, highOf, lowOf]
        | ownStale i g row len o' a n cap ho hs =>
          rw [ho] at hob
          obtain rfl := Option.some.inj hob
          rcases hs with hs | hs
          · rw [hlv] at hs; cases hs
          · omega
      · cases hb
    · cases e
  · cases e

theorem zeroLeaf_rel {sh : Sh} {z : Value} {y : AV} (e : zeroLeaf sh z = some y) : Rel s y z ∧ isCell y = true ∧ refFree y = true := by
  unfold zeroLeaf at e
  split at e
  · simp at e; subst e; exact ⟨.nil _, rfl, rfl⟩
  · split at e
    · rename_i h; simp at e; subst e; exact ⟨.v _ h, rfl, rfl⟩
    · cases e

theorem zeroLeaves_rel : ∀ {ss : List Sh} {zs : List Value} {ys : List AV}, zeroLeaves ss zs = some ys →
    ys.length = zs.length ∧ (∀ c ∈ ys, isCell c = true) ∧ (∀ c ∈ ys, refFree c = true) ∧ ∀ (j : Nat) (y : AV) (z : Value), ys[j]? = some y → zs[j]? = some z → Rel s y z
  | [], [], ys, e => by simp [zeroLeaves] at e; subst e; simp
  | [], _ :: _, ys, e => by simp [zeroLeaves] at e
  | _ :: _, [], ys, e => by simp [zeroLeaves] at e
  | sh :: ss, z :: zs, ys, e => by
    simp only [zeroLeaves] at e
    split at e
    · rename_i y hy
      split at e
      · rename_i ys' hys
        simp at e; subst e
        obtain ⟨h1, h2, h3, h4⟩ := zeroLeaves_rel hys
        obtain ⟨k1, k2, k3⟩ := zeroLeaf_rel (s := s) hy
        refine ⟨by simp [h1], by simpa using ⟨k2, h2⟩, by simpa using ⟨k3, h3⟩, ?_⟩
        intro j y' z' hj hz
        cases j with
        | zero => simp at hj hz; subst hj; subst hz; exact k1
        | succ j => simp at hj hz; exact h4 j y' z' hj hz
      · cases e
    · cases e

theorem refFrees_all : ∀ {xs : List AV}, (∀ c ∈ xs, refFree c = true) → refFrees xs = true
  | [], _ => rfl
  | x :: xs, h => by
    simp only [refFrees, Bool.and_eq_true]
    exact ⟨h x (by simp), refFrees_all fun c hc => h c (by simp [hc])⟩

theorem refFrees_mem : ∀ {xs : List AV}, refFrees xs = true → ∀ c ∈ xs, refFree c = true
  | [], _, c, hc => by cases hc
  | x :: xs, h, c, hc => by
    simp only [refFrees, Bool.and_eq_true] at h
    rcases List.mem_cons.1 hc with rfl | hc
    · exact h.1
    · exact refFrees_mem h.2 c hc

/-- A type's zero value. -/
theorem zeroOf_rel {P : Program} {t : TypeId} {y : AV} (e : zeroOf P t = some y) :
    ∃ z, (∀ w, (zeroValue t).run P w = .ok z w) ∧ Rel s y z ∧ Cells s y z ∧ refFree y = true := by
  unfold zeroOf at e
  split at e
  · rename_i i hi
    split at e
    · rename_i z hz
      refine ⟨z, fun w => by simp [zeroValue, typeInfo, hi, hz], ?_⟩
      unfold zeroSh at e
      split at e
      · split at e
        · rename_i cs _ ys hys
          simp at e; subst e
          obtain ⟨h1, h2, h3, h4⟩ := zeroLeaves_rel (s := s) hys
          have hr : Rel s (.agg ys) (.agg cs) := .agg ys cs (by simpa using h1.symm) h2 (fun j y z hj hz => h4 j y z hj (by rw [Array.getElem?_toList]; exact hz))
          obtain ⟨_, _, hc⟩ := Cells.of_agg hr
          exact ⟨hr, hc, by simp only [refFree]; exact refFrees_all h3⟩
        · cases e
      · obtain ⟨k1, k2, k3⟩ := zeroLeaf_rel (s := s) e
        exact ⟨k1, Cells.of_cell k1 k2, k3⟩
    · cases e
  · cases e

theorem sound_typeAssert {x : Operand} {xt asserted : TypeId} {ok : Bool} (hop : o.op = .typeAssert x xt asserted ok) (hok : Ok X s) (hρ : ∀ x, Rel s (ρ x) (av x))
    (e : opK X g o ρ s.H (fun v h t => some (v, h, t)) = some (v, h', tg)) : Done X s ((execOp av o).run X.P s.w) v h' := by
  have hx := hρ x
  have hrun : (execOp av o).run X.P s.w = (do pure (.value (← Instr.typeAssert (av x) xt asserted ok)) : Sem Next).run X.P s.w := by simp only [execOp, hop]
  simp only [opK, hop] at e
  have tup2 : ∀ {a b : AV} {u w : Value}, Rel s a u → Rel s b w → Rel s (.tup [a, b]) (.tuple #[u, w]) := by
    intro a b u w h1 h2
    refine .tup _ _ rfl ?_
    intro j x y hx hy
    match j with
    | 0 => simp at hx hy; subst hx; subst hy; exact h1
    | 1 => simp at hx hy; subst hx; subst hy; exact h2
    | j + 2 => simp at hx
  split at e
  · cases e
  · rename_i d hni hu
    have hfails : ∀ (st dy : Option TypeId) (m : String), ok = true → ∀ z, zeroOf X.P asserted = some z → (some (AV.tup [z, .v (.bool false)], s.H, Tag.pure) = some (v, h', tg)) →
        ∃ cv, (do if ok then pure (.tuple #[← zeroValue asserted, .bool false]) else runtimePanic (.typeAssertion st dy asserted m) : Sem Value).run X.P s.w = .ok cv s.w ∧ Rel s v cv ∧ h' = s.H := by
      intro st dy m hokk z hz ee
      simp only [Option.some.injEq, Prod.mk.injEq] at ee
      obtain ⟨rfl, rfl, _⟩ := ee
      obtain ⟨zv, hzr, hzrel, _⟩ := zeroOf_rel (s := s) hz
      exact ⟨_, by rw [hokk]; simp [hzr], tup2 hzrel (.v _ rfl), rfl⟩
    split at e
    · rename_i t y hpx
      rw [hpx] at hx
      generalize hvx : av x = vx at hx
      cases hx with
      | iface t y vy hy =>
      rcases br_some e with ⟨h1, e1⟩ | ⟨h1, e1⟩
      · have ht := Nat.eq_of_beq_eq_true h1
        subst ht
        have hh : ∀ cv, (if ok then Value.tuple #[vy, .bool true] else vy) = cv → (Instr.typeAssert (av x) xt t ok).run X.P s.w = .ok cv s.w := by
          intro cv hcv
          rw [hvx]
          simp only [Instr.typeAssert, Sem.run_bind, run_underlying hu, Result.andThen_ok]
          cases d <;> first | exact absurd rfl (hni _) | (simp [hcv])
        cases ok with
        | true =>
          simp only [Option.some.injEq, Prod.mk.injEq] at e1
          obtain ⟨rfl, rfl, rfl⟩ := e1
          exact Done.pure hok (run_op hrun (hh _ rfl)) (tup2 hy (.v _ rfl))
        | false =>
          simp only [Option.some.injEq, Prod.mk.injEq] at e1
          obtain ⟨rfl, rfl, rfl⟩ := e1
          exact Done.pure hok (run_op hrun (hh _ rfl)) hy
      · have ht : ¬ t = asserted := fun h => by subst h; simp at h1
        cases ok with
        | false => cases e1
        | true =>
          split at e1
          · rename_i hok1
            split at e1
            · rename_i z hz
              obtain ⟨cv, hr, hrel, hh⟩ := hfails (some xt) (some t) "" rfl z hz e1
              subst hh
              refine Done.pure hok (run_op hrun (cv := cv) ?_) hrel
              rw [hvx]
              simp only [Instr.typeAssert, Sem.run_bind, run_underlying hu, Result.andThen_ok]
              cases d <;> first | exact absurd rfl (hni _) | (simp only [Sem.run_ite, if_neg ht]; exact hr)
            · cases e1
          · cases e1
    · rename_i hpx
      rw [hpx] at hx
      obtain ⟨hvx, _⟩ := hx.v_inv
      split at e
      · split at e
        · rename_i z hz
          obtain ⟨cv, hr, hrel, hh⟩ := hfails (some xt) none "" rfl z hz e
          subst hh
          refine Done.pure hok (run_op hrun (cv := cv) ?_) hrel
          rw [hvx]
          simp only [Instr.typeAssert, Sem.run_bind, run_underlying hu, Result.andThen_ok]
          cases d <;> first | exact absurd rfl (hni _) | exact hr
        · cases e
      · cases e
    · cases e
  · cases e
end
end Go.Ab
