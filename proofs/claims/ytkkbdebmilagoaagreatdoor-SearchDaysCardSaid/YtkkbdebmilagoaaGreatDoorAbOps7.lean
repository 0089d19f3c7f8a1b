/- Each operation of the abstract machine is the model's: stores; all of them. -/
import Derived.Test.YtkkbdebmilagoaaGreatDoorAbOps6
import Derived.IntWalk
set_option linter.unusedSimpArgs false
set_option linter.unusedVariables false
namespace Go.Ab
open Go

section
variable {X : Ctx} {s : St} {g : FuncId} {o : Oper} {ρ : Operand → AV} {av : Operand → Value} {v : AV} {h' : Heap} {tg : Tag}

theorem normT_free {P : Program} {t : TypeId} {x : AV} (h : refFree x = true) : refFree (normT P t x) = true := by
  unfold normT
  split
  · split
    · rfl
    · exact h
  · exact h

/-- A store into a row of an object. -/
theorem store_at {t : TypeId} {a v0 : Operand} {id gen r off : Nat} {ob : Obj} {newrow : AV} {x : AV} (hop : o.op = .store t a v0) (hok : Ok X s)
    (ha : Rel s (.ptr id gen r off) (av a)) (hv : Rel s x (av v0)) (hob : s.H[id]? = some ob) (hit : ob.it = none) (hl : ob.live = true) (hg : ob.gen = gen) (hf : fits X.P t x = true) (hfree : ob.box = false → refFree newrow = true)
    (hncell : ∀ c ∈ newrow.cells, isCell c = true) (hnl : newrow.cells.length = ob.es) (hoff : off + X.P.cellsOf t ≤ ob.es)
    (hnew : ∀ j, newrow.cells[j]? = if off ≤ j ∧ j < off + X.P.cellsOf t then x.cells[j - off]? else ((ob.rows[r]?).getD .dead).cells[j]?) :
    Done X s ((execOp av o).run X.P s.w) (.tup []) (s.H.set id { ob with rows := ob.rows.set r newrow, ver := ob.ver }) := by
  have hobok := hok.obj id ob hob hl
  obtain ⟨cur, ty', fr, hfr, hblk, hsz0, hc2, hcells⟩ := hobok.block hit
  obtain ⟨hxc, hxl, hk1, hk2, hk3⟩ := fits_cells hf hv
  obtain ⟨kb, hkb⟩ := Option.isSome_iff_exists.1 hk3
  obtain ⟨d, hd⟩ := kind_underlying hkb
  generalize hva : av a = va at ha
  cases ha with
  | ptrStale i g row off' o' a ho hs =>
    rw [ho] at hob
    obtain rfl := Option.some.inj hob
    rcases hs with h | h
    · rw [hl] at h; cases h
    · omega
  | ptr i g row off' o2 ho hl2 hg2 hrow =>
  rw [ho] at hob
  obtain rfl := Option.some.inj hob
  have hrow1 : (r + 1) * o2.es ≤ o2.rows.length * o2.es := Nat.mul_le_mul_right _ (by omega)
  rw [Nat.add_mul] at hrow1
  have hvl : (av v0).cells.toList.length = X.P.cellsOf t := by rw [Array.length_toList, hxc.size, hxl]
  have hfit : r * o2.es + off + (av v0).cells.toList.length ≤ cur.size := by rw [hvl]; omega
  have hstore := run_storeCells_end X.P (s.loc id) (r * o2.es + off) ty' fr (av v0).cells.toList 0 cur s.w hfr hblk (by simpa using hfit) hxc.one
  simp only [Nat.add_zero] at hstore
  generalize hcur' : (cur.toList.take (r * o2.es + off) ++ (av v0).cells.toList ++ cur.toList.drop (r * o2.es + off + (av v0).cells.toList.length)).toArray = cur' at hstore
  have hcsz : cur'.size = cur.size := by
    rw [← hcur']
    simp only [List.size_toArray, List.length_append, List.length_take, List.length_drop, Array.length_toList] at hfit ⊢
    omega
  have hget : ∀ k, cur'[k]? = if r * o2.es + off ≤ k ∧ k < r * o2.es + off + X.P.cellsOf t then (av v0).cells[k - (r * o2.es + off)]? else cur[k]? := by
    intro k
    rw [← hcur', List.getElem?_toArray, List.append_assoc]
    have hlt : (cur.toList.take (r * o2.es + off)).length = r * o2.es + off := by simp; omega
    by_cases h1 : k < r * o2.es + off
    · rw [List.getElem?_append_left (by omega), List.getElem?_take, if_pos h1, if_neg (by omega), Array.getElem?_toList]
    · rw [List.getElem?_append_right (by omega), hlt]
      by_cases h2 : k < r * o2.es + off + X.P.cellsOf t
      · rw [List.getElem?_append_left (by omega), if_pos (by omega), Array.getElem?_toList]
      · rw [List.getElem?_append_right (by omega), if_neg (by omega), List.getElem?_drop, hvl, Array.getElem?_toList]
        congr 1
        omega
  have hrowx : ∃ old, o2.rows[r]? = some old ∧ old.cells.length = o2.es := ⟨o2.rows[r], List.getElem?_eq_getElem hrow, hobok.es _ (List.getElem_mem hrow)⟩
  obtain ⟨old, hold, holdl⟩ := hrowx
  have hmem : ∀ q ∈ o2.rows.set r newrow, q ∈ o2.rows ∨ q = newrow := fun q hq => List.mem_or_eq_of_mem_set hq
  obtain ⟨s', hw', hH', hloc', hst', hok'⟩ := update hok ho hl { o2 with rows := o2.rows.set r newrow, ver := o2.ver } (s.loc id) cur' ty' (hfr.size hcsz) (w' := s.w.setRow (s.loc id) cur') (.inl rfl) (by simp)
    (fun k _ hk => setRow_other _ _ _ _ (hk.resolve_right (fun h => h rfl))) (setRow_heap _ _ _ _ _ _ hblk) hl (Nat.le_refl _)
    (fun _ => ⟨rfl, by simp, rfl, rfl, fun c ty _ hc => by
      rw [hblk] at hc
      simp only [Option.some.injEq, Go.Obj.cells.injEq] at hc
      exact ⟨hc.2.1, hc.2.2, by rw [hcsz, hc.1]⟩⟩)
    (by simp only [List.length_set, hcsz]; exact hsz0) (fun hb => by
      obtain ⟨h1, cap, h2, h3⟩ := hc2 hb
      exact ⟨h1, cap, by simp only [hcsz]; exact h2, by simpa using h3⟩)
    (fun q hq => (hmem q hq).elim (hobok.es q) (fun e => e ▸ hnl)) (fun q hq => (hmem q hq).elim (hobok.cell q) (fun e => e ▸ hncell)) (fun hb q hq => (hmem q hq).elim (hobok.free hb q) (fun e => e ▸ hfree hb))
    (by
      intro q c y z hy hz
      simp only at hy ⊢
      rw [hget]
      by_cases hqr : q = r
      · subst hqr
        rw [List.getElem?_set_self hrow] at hy
        simp at hy; subst hy
        rw [hnew c] at hz
        by_cases hin : off ≤ c ∧ c < off + X.P.cellsOf t
        · rw [if_pos hin] at hz
          rw [if_pos (by omega)]
          have hcl := (List.getElem?_eq_some_iff.1 hz).1
          have hcs : c - off < (av v0).cells.size := by rw [hxc.size]; exact hcl
          refine ⟨(av v0).cells[c - off], ?_, hxc.rel _ z _ hz (Array.getElem?_eq_getElem hcs)⟩
          rw [show q * o2.es + c - (q * o2.es + off) = c - off by omega]
          exact Array.getElem?_eq_getElem hcs
        · rw [if_neg hin, hold] at hz
          simp only [Option.getD_some] at hz
          rw [if_neg (by omega)]
          exact hcells q c old z hold hz
      · rw [List.getElem?_set_ne (Ne.symm hqr)] at hy
        have hcl := (List.getElem?_eq_some_iff.1 hz).1
        have hyl := hobok.es y (List.mem_of_getElem? hy)
        rw [if_neg ?_]
        · exact hcells q c y z hy hz
        · rintro ⟨h1, h2⟩
          rcases Nat.lt_or_gt_of_ne hqr with hlt | hgt
          · have : (q + 1) * o2.es ≤ r * o2.es := Nat.mul_le_mul_right _ (by omega)
            rw [Nat.add_mul] at this
            omega
          · have : (r + 1) * o2.es ≤ q * o2.es := Nat.mul_le_mul_right _ (by omega)
            rw [Nat.add_mul] at this
            omega) hit
  refine ⟨.skip, undef, s', ?_, .inr ⟨rfl, rfl⟩, hH', hst', hok', .tup [] #[] rfl (by simp)⟩
  rw [hw']
  simp only [execOp, hop, hva, Instr.storeAt, Instr.sureAddr, Sem.run_bind, Sem.run_pure, Result.andThen_ok, storeVar, run_sizeOf_ok hd]
  have hcs : (av v0).cells.size = X.P.cellsOf t := by rw [hxc.size, hxl]
  simp only [hcs, ne_eq, not_true_eq_false, if_false, Sem.run_bind, Sem.run_pure, Result.andThen_ok]
  have hst := hstore
  simp only [ad] at hst ⊢
  rw [hst]
  rfl

theorem sound_store {t : TypeId} {a v0 : Operand} (hop : o.op = .store t a v0) (hok : Ok X s) (hρ : ∀ x, Rel s (ρ x) (av x))
    (e : opK X g o ρ s.H (fun v h t => some (v, h, t)) = some (v, h', tg)) : Done X s ((execOp av o).run X.P s.w) v h' := by
  have ha := hρ a
  have hv := normT_rel (P := X.P) (t := t) (hρ v0)
  simp only [opK, hop] at e
  split at e
  · rename_i id gen r off hpa
    rw [hpa] at ha
    obtain ⟨ob, hob, hl, hg, e1⟩ := objK_some e
    have hobok := hok.obj id ob hob hl
    split at e1
    · rename_i hchk
      simp only [Bool.and_eq_true] at hchk
      obtain ⟨hxc, hxl, _⟩ := fits_cells hchk.1 hv
      have hfree : ob.box = false → refFree (normT X.P t (ρ v0)) = true := fun hb => by
        have := hchk.2
        rw [hb] at this
        exact normT_free (by simpa using this)
      split at e1
      · rename_i hw
        simp only [Bool.and_eq_true] at hw
        have hoff0 := Nat.eq_of_beq_eq_true hw.2
        have hes := Nat.eq_of_beq_eq_true hw.1.2
        subst hoff0
        simp only [setK, Option.some.injEq, Prod.mk.injEq] at e1
        obtain ⟨rfl, rfl, rfl⟩ := e1
        refine store_at hop hok ha hv hob (objK_it e hob) hl hg hchk.1 hfree hxc.cell (by rw [hxl, hes]) (by rw [hes]; omega) ?_
        intro j
        by_cases hj : j < X.P.cellsOf t
        · rw [if_pos (by omega)]; rfl
        · rw [if_neg (by omega), List.getElem?_eq_none (by omega)]
          have hr : ((ob.rows[r]?).getD .dead).cells.length ≤ j ∨ ob.rows[r]? = none := by
            cases hx : ob.rows[r]? with
            | none => exact .inr rfl
            | some y => exact .inl (by simp only [Option.getD_some]; rw [hobok.es y (List.mem_of_getElem? hx), hes]; omega)
          rcases hr with hr | hr
          · rw [List.getElem?_eq_none hr]
          · exfalso
            generalize av a = va at ha
            cases ha with
            | ptr i g row off' o2 ho _ _ hrow =>
              rw [ho] at hob
              obtain rfl := Option.some.inj hob
              rw [List.getElem?_eq_getElem hrow] at hr
              cases hr
            | ptrStale i g row off' o2 a ho hs =>
              rw [ho] at hob
              obtain rfl := Option.some.inj hob
              rcases hs with h | h
              · rw [hl] at h; cases h
              · omega
      · obtain ⟨row, hrow, e2⟩ := rowK_some e1
        split at e2
        · rename_i cs
          split at e2
          · rename_i hle
            have hle' : off + X.P.cellsOf t ≤ cs.length := Nat.le_of_ble_eq_true hle
            simp only [setK, Option.some.injEq, Prod.mk.injEq] at e2
            obtain ⟨rfl, rfl, rfl⟩ := e2
            have hmem : AV.agg cs ∈ ob.rows := List.mem_of_getElem? hrow
            have hcl : cs.length = ob.es := hobok.es _ hmem
            refine store_at hop hok ha hv hob (objK_it e hob) hl hg hchk.1 (fun hb => ?_) ?_ ?_ (by omega) ?_
            · simp only [refFree]
              refine refFrees_all fun c hc => ?_
              rcases mem_splice hc with h | h
              · exact refFrees_mem (by simpa [refFree] using hobok.free hb _ hmem) c h
              · have h1 := hfree hb
                cases hxx : normT X.P t (ρ v0) with
                | agg ys => rw [hxx] at h h1; exact refFrees_mem (by simpa [refFree, AV.cells] using h1) c h
                | _ => rw [hxx] at h h1; simp [AV.cells] at h; subst h; exact h1
            · intro c hc
              rcases mem_splice (show c ∈ splice cs off _ from hc) with h | h
              · exact hobok.cell _ hmem c h
              · exact hxc.cell c h
            · show (splice cs off _).length = _
              rw [splice_length _ _ _ (by omega), hcl]
            · intro j
              show (splice cs off _)[j]? = _
              rw [splice_get _ _ _ (by omega), hxl, hrow]
              rfl
          · cases e2
        · cases e2
    · cases e1
  · cases e

theorem sound_makeSlice {t : TypeId} {l m : Operand} (hop : o.op = .makeSlice t l m) (hok : Ok X s) (hρ : ∀ x, Rel s (ρ x) (av x))
    (e : opK X g o ρ s.H (fun v h t => some (v, h, t)) = some (v, h', tg)) : Done X s ((execOp av o).run X.P s.w) v h' := by
  have hl := hρ l
  have hm := hρ m
  have hrun : (execOp av o).run X.P s.w = (do pure (.value (← Instr.makeSlice t (av l) (av m))) : Sem Next).run X.P s.w := by simp only [execOp, hop]
  simp only [opK, hop] at e
  split at e
  · rename_i el n n' hel hpl hpm
    have hu := elemT_some hel
    rw [hpl] at hl
    rw [hpm] at hm
    obtain ⟨hvl, _⟩ := hl.v_inv
    obtain ⟨hvm, _⟩ := hm.v_inv
    split at e
    · rename_i z hz
      obtain ⟨h0, e0⟩ := br_yes e
      obtain ⟨h1, e1⟩ := br_yes e0
      obtain ⟨h2, e2⟩ := br_yes e1
      obtain ⟨h3, e3⟩ := br_yes e2
      simp only [Bool.and_eq_true] at h0 h3
      simp at h1 h2
      simp only [newK, Option.some.injEq, Prod.mk.injEq] at e3
      obtain ⟨rfl, rfl, rfl⟩ := e3
      have hz' := hz
      obtain ⟨zv, hzr, hzrel, hzc, hzf⟩ := zeroOf_rel (s := s) hz
      obtain ⟨_, hzl, _⟩ := fits_cells h0.1 hzrel
      have hpos := not_beq h0.2
      have hb1 : n'.toNat * X.P.bytesOf el ≤ maxBytes := Nat.le_of_ble_eq_true h3.1
      have hb2 : n'.toNat * 1 ≤ maxBytes := Nat.le_of_ble_eq_true h3.2
      simp only [maxBytes] at hb1 hb2
      obtain ⟨i, hi⟩ := underlying_info (P := X.P) (t := el) (d := _) (Classical.choose_spec (kind_underlying (P := X.P) (t := el) (b := _) (Classical.choose_spec (Option.isSome_iff_exists.1 (fits_cells h0.1 hzrel).2.2.2.2))))
      have hisz : i.size = X.P.cellsOf el := by simp [Program.cellsOf, hi]
      have hby : i.bytes = X.P.bytesOf el := by simp [Program.bytesOf, hi]
      have hwrap : ∀ k : Int, 0 ≤ k → k ≤ 70368744177664 → IntKind.i64.wrap k = k := by
        intro k hk0 hk1
        exact IntWalk.i64_in k (by omega)
      have hl0 := Lies.replicate hzc hzf (by rw [hzl]; exact hpos) n.toNat n'.toNat (by omega)
      rw [hzl] at hl0
      refine own_done hok .zero (cap := n'.toNat) (w' := { s.w with heap := s.w.heap.push (.cells ((Array.range (n'.toNat * X.P.cellsOf el)).map fun k => zv.cells[k % zv.cells.size]!) el) }) hl0 rfl ?_ (by simp; omega) (by simp)
      have hbytes : ¬ ((i.bytes : Int) * n' > 2 ^ 48) := by
        have e1 : (n' : Int) = (n'.toNat : Int) := (Int.toNat_of_nonneg (by omega)).symm
        rw [e1, hby]
        have : X.P.bytesOf el * n'.toNat ≤ 70368744177664 := by rw [Nat.mul_comm]; exact hb1
        have h4 : ((X.P.bytesOf el : Int) * (n'.toNat : Int)) = ((X.P.bytesOf el * n'.toNat : Nat) : Int) := by push_cast; rfl
        rw [h4]
        omega
      have hrun' : (Instr.makeSlice t (av l) (av m)).run X.P s.w = .ok (.slice (some ⟨s.w.heap.size, 0, none⟩) n.toNat n'.toNat) { s.w with heap := s.w.heap.push (.cells ((Array.range (n'.toNat * X.P.cellsOf el)).map fun k => zv.cells[k % zv.cells.size]!) el) } := by
        rw [hvl, hvm]
        simp only [Instr.makeSlice, Sem.run_bind, run_underlying hu, Result.andThen_ok, Go.asInt, Go.asIntOf, Sem.run_pure, typeInfo, run_program, hi]
        rw [hwrap n (by omega) (by omega), hwrap n' (by omega) (by omega)]
        have hd1 : (decide (n' < 0) || decide ((i.bytes : Int) * n' > 2 ^ 48)) = false := by simp; omega
        have hd2 : ((decide (n' < 0) || decide ((i.bytes : Int) * n' > 2 ^ 48)) || decide (n < 0) || decide (n > n')) = false := by rw [hd1]; simp; omega
        simp only [hd2, Bool.false_eq_true, if_false, Sem.run_bind, Sem.run_pure, Result.andThen_ok, run_askRoom, sizeOf, typeInfo, run_program, hi, hisz]
        by_cases h00 : n'.toNat * X.P.cellsOf el = 0
        · have hr0 : Array.range (n'.toNat * X.P.cellsOf el) = #[] := by rw [h00]; rfl
          simp only [h00, if_true, Sem.run_bind, Sem.run_pure, Result.andThen_ok, run_newRow, Array.range_zero', Array.map_empty]
        · simp only [h00, if_false, Sem.run_bind, Sem.run_pure, Result.andThen_ok, run_newRow, hzr]
      rw [run_op hrun hrun']
      simp
    · cases e
  · cases e
end
end Go.Ab
