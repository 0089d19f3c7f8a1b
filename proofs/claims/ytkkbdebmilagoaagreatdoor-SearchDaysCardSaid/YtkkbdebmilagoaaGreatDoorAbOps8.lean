/- Each operation of the abstract machine is the model's: the built-ins; all of them. -/
import Derived.Test.YtkkbdebmilagoaaGreatDoorAbOps7
set_option linter.unusedSimpArgs false
set_option linter.unusedVariables false
namespace Go.Ab
open Go

section
variable {X : Ctx} {s : St} {g : FuncId} {o : Oper} {ρ : Operand → AV} {av : Operand → Value} {v : AV} {h' : Heap} {tg : Tag}

theorem zeroFits_some {P : Program} {e : TypeId} (h : zeroFits P e = true) : ∃ z, zeroOf P e = some z ∧ fits P e z = true ∧ P.cellsOf e ≠ 0 := by
  unfold zeroFits at h
  split at h
  · rename_i z hz
    simp only [Bool.and_eq_true] at h
    exact ⟨z, hz, h.1, not_beq h.2⟩
  · cases h

/-- append of so many zero values to nothing. -/
theorem append_ints {run : Result Next} {t1 t2 ty e : TypeId} {n : Int} (hok : Ok X s) (ht : X.P.underlying t1 = some (.slice e)) (hint : isIntT X.P t2 = true)
    (hrun : run = (do pure (.value (← Builtin.append_ #[t1, t2] ty #[.slice none 0 0, .int .i64 n])) : Sem Next).run X.P s.w)
    {z : AV} (hz : zeroOf X.P e = some z) (hfz : fits X.P e z = true) (hpos : X.P.cellsOf e ≠ 0) (hn : 0 < n) (hb : lenOk n.toNat (X.P.bytesOf e) = true) (h1 : lenOk n.toNat 1 = true) :
    Done X s run (.own s.H.length 0 0 none) (s.H ++ [{ rows := List.replicate n.toNat z, gen := 0, ver := 0, live := true, box := false, ty := e, es := X.P.cellsOf e }]) := by
  obtain ⟨k, ht2⟩ : ∃ k, X.P.underlying t2 = some (.int k) := by
    unfold isIntT at hint
    split at hint
    · exact ⟨_, ‹_›⟩
    · cases hint
  obtain ⟨zv, hzr, hzrel, hzc, hzf⟩ := zeroOf_rel (s := s) hz
  obtain ⟨_, hzl, _⟩ := fits_cells hfz hzrel
  have hb1 : n.toNat * X.P.bytesOf e ≤ maxBytes := Nat.le_of_ble_eq_true hb
  have hb2 : n.toNat * 1 ≤ maxBytes := Nat.le_of_ble_eq_true h1
  simp only [maxBytes] at hb1 hb2
  unfold zeroOf at hz
  split at hz
  · rename_i i hi
    have hisz : i.size = X.P.cellsOf e := by simp [Program.cellsOf, hi]
    have hby : i.bytes = X.P.bytesOf e := by simp [Program.bytesOf, hi]
    split at hz
    · rename_i zz hzz
      have hzz' : zz = zv := by
        have := hzr s.w
        simp [zeroValue, typeInfo, hi, hzz] at this
        exact this
      subst hzz'
      have hge := grownCap_ge s.w n.toNat 0 e
      have hl0 := Lies.replicate hzc hzf (by rw [hzl]; exact hpos) n.toNat (grownCap s.w n.toNat 0 e) hge
      rw [hzl] at hl0
      have hcat : ∀ a b : Nat, Builtin.zeroCells zz.cells a ++ Builtin.zeroCells zz.cells b = (Array.range ((a + b) * X.P.cellsOf e)).map fun k => zz.cells[k % zz.cells.size]! := by
        intro a b
        have hsz : zz.cells.size = X.P.cellsOf e := by rw [hzc.size, hzl]
        apply Array.ext_getElem?
        intro j
        simp only [Builtin.zeroCells, hsz]
        by_cases hj : j < a * X.P.cellsOf e
        · rw [Array.getElem?_append_left (by simpa using hj)]
          have : j < (a + b) * X.P.cellsOf e := by rw [Nat.add_mul]; omega
          simp [hj, this]
        · rw [Array.getElem?_append_right (by simpa using hj)]
          simp only [Array.size_map, Array.size_range, Array.getElem?_map]
          by_cases hj2 : j < (a + b) * X.P.cellsOf e
          · have h3 : j - a * X.P.cellsOf e < b * X.P.cellsOf e := by rw [Nat.add_mul] at hj2; omega
            rw [Array.getElem?_range, Array.getElem?_range, if_pos hj2, if_pos h3]
            simp only [Option.map_some]
            congr 2
            have : j = (j - a * X.P.cellsOf e) + X.P.cellsOf e * a := by have h9 := Nat.mul_comm a (X.P.cellsOf e); omega
            conv => rhs; rw [this, Nat.add_mul_mod_self_left]
          · have h3 : ¬ j - a * X.P.cellsOf e < b * X.P.cellsOf e := by rw [Nat.add_mul] at hj2; omega
            rw [Array.getElem?_range, Array.getElem?_range, if_neg hj2, if_neg h3]
      refine own_done hok .zero (cap := grownCap s.w n.toNat 0 e) (w' := s.w.drew.alloc (.cells ((Array.range (grownCap s.w n.toNat 0 e * X.P.cellsOf e)).map fun k => zz.cells[k % zz.cells.size]!) e)) hl0 rfl ?_ (by simpa using hge) (by simp)
      have hwrap : IntKind.i64.wrap n = n := IntWalk.i64_in n (by omega)
      have hbytes : ¬ ((n : Int) * i.bytes > 281474976710656) := by
        have e1 : (n : Int) = (n.toNat : Int) := (Int.toNat_of_nonneg (by omega)).symm
        rw [e1, hby]
        have h4 : ((n.toNat : Int) * (X.P.bytesOf e : Int)) = ((n.toNat * X.P.bytesOf e : Nat) : Int) := by push_cast; rfl
        rw [h4]
        omega
      have hnext0 : Builtin.nextslicecap n.toNat 0 * i.bytes ≤ 281474976710656 := growslice_fits (by omega) (by rw [hby]; omega)
      have hnext : ¬ (281474976710656 < Builtin.nextslicecap n.toNat 0 * i.bytes) := by omega
      have hn0 : ¬ (n < 0) := by omega
      have hneed : ¬ (n.toNat ≤ 0) := by omega
      have h63 : ¬ ((n.toNat : Int) > IntKind.i64.max) := by
        have : IntKind.i64.max = 9223372036854775807 := by rfl
        rw [this]
        omega
      have hnz : ¬ (n.toNat * i.size = 0) := by
        rw [hisz]
        intro h
        rcases Nat.mul_eq_zero.1 h with h | h
        · omega
        · exact hpos h
      have hadd : n.toNat + (grownCap s.w n.toNat 0 e - n.toNat) = grownCap s.w n.toNat 0 e := by omega
      have hz' : ∀ w : World, (zeroValue e).run X.P w = .ok zz w := fun w => by simp [zeroValue, typeInfo, hi, hzz]
      have hrun' : (Builtin.append_ #[t1, t2] ty #[.slice none 0 0, .int .i64 n]).run X.P s.w = .ok (.slice (some ⟨s.w.heap.size, 0, none⟩) n.toNat (grownCap s.w n.toNat 0 e)) (s.w.drew.alloc (.cells ((Array.range (grownCap s.w n.toNat 0 e * X.P.cellsOf e)).map fun k => zz.cells[k % zz.cells.size]!) e)) := by
        have hc := hcat n.toNat (grownCap s.w n.toNat 0 e - n.toNat)
        rw [hadd] at hc
        rw [← hc]
        have hu1 : ∀ w : World, (underlying t1).run X.P w = .ok (.slice e) w := run_underlying ht
        have hu2 : ∀ w : World, (underlying t2).run X.P w = .ok (.int k) w := run_underlying ht2
        have h63' : ¬ (9223372036854775807 < max n 0) := by omega
        have hn1 : ¬ (n ≤ 0) := by omega
        simp [Builtin.append_, h63', hn1, hu1, hu2, sizeOf, typeInfo, zeroValue, hi, hzz, Go.asInt, Go.asIntOf, hwrap, hn0, hbytes, hneed, h63, hnext, hnz, Question.forced, newRow, Builtin.firstCells, grownCap]
      rw [run_op hrun hrun']
      simp
    · cases hz
  · cases hz

theorem bind_underlying {P : Program} {ts : Array TypeId} {d : TypeDesc} (h : (ts[0]?).bind P.underlying = some d) : ∃ t, ts[0]? = some t ∧ P.underlying t = some d := by
  simpa [Option.bind_eq_some_iff] using h

theorem appendOk_some {P : Program} {t1 t2 el : TypeId} {x : AV} (hu : P.underlying t1 = some (.slice el)) (h : appendOk P t1 t2 x = true) :
    ∃ d2, P.underlying t2 = some d2 ∧ (d2 = .string ∨ ∃ e', d2 = .slice e') := by
  unfold appendOk at h
  split at h
  · split at h
    · exact ⟨_, ‹_›, .inl rfl⟩
    · cases h
  · have := Nat.eq_of_beq_eq_true h
    subst this
    exact ⟨_, hu, .inr ⟨_, rfl⟩⟩

theorem clear_rows {rows : List AV} {z : AV} {row n q : Nat} (h : row + n ≤ rows.length) :
    (rows.take row ++ List.replicate n z ++ rows.drop (row + n))[q]? = if row ≤ q ∧ q < row + n then some z else rows[q]? := by
  have h1 : (rows.take row).length = row := by simp; omega
  by_cases hq : q < row
  · rw [if_neg (by omega), List.append_assoc, List.getElem?_append_left (by omega), List.getElem?_take, if_pos hq]
  · by_cases hq2 : q < row + n
    · rw [if_pos (by omega), List.getElem?_append_left (by simp; omega), List.getElem?_append_right (by omega), h1, List.getElem?_replicate, if_pos (by omega)]
    · rw [if_neg (by omega), List.getElem?_append_right (by simp; omega), List.getElem?_drop]
      congr 1
      simp
      omega
theorem clear_cells {cur : Array Value} {vs : List Value} {o k : Nat} (h : o + vs.length ≤ cur.size) :
    (cur.toList.take o ++ vs ++ cur.toList.drop (o + vs.length)).toArray[k]? = if o ≤ k ∧ k < o + vs.length then vs[k - o]? else cur[k]? := by
  have h1 : (cur.toList.take o).length = o := by simp; omega
  rw [List.getElem?_toArray]
  by_cases hq : k < o
  · rw [if_neg (by omega), List.append_assoc, List.getElem?_append_left (by omega), List.getElem?_take, if_pos hq, Array.getElem?_toList]
  · by_cases hq2 : k < o + vs.length
    · rw [if_pos (by omega), List.getElem?_append_left (by simp; omega), List.getElem?_append_right (by omega), h1]
    · rw [if_neg (by omega), List.getElem?_append_right (by simp; omega), List.getElem?_drop, Array.getElem?_toList]
      congr 1
      simp
      omega

theorem sound_clear {t el : TypeId} {ty : TypeId} {cv : Value} {id gen row : Nat} {len : Option Nat} {ob : Obj} {z : AV} {run : Result Next} {ts : Array TypeId} (ht : ts[0]? = some t) (hok : Ok X s) (hu : X.P.underlying t = some (.slice el)) (hr : Rel s (.own id gen row len) cv)
    (hob : s.H[id]? = some ob) (hl : ob.live = true) (hg : ob.gen = gen) (hz : zeroOf X.P el = some z) (hfz : fits X.P el z = true) (hpos : X.P.cellsOf el ≠ 0) (hbox : ob.box = false) (hty : ob.ty = el) (hes : ob.es = X.P.cellsOf el)
    (hrun : run = (do pure (.value (← Builtin.clear_ ts ty #[cv])) : Sem Next).run X.P s.w) :
    Done X s run (.tup []) (s.H.set id { ob with rows := ob.rows.take row ++ List.replicate (lenOfOwn ob row len) z ++ ob.rows.drop (row + lenOfOwn ob row len) }) := by
  obtain ⟨zv, hzr, hzrel, hzc, hzf⟩ := zeroOf_rel (s := s) hz
  obtain ⟨_, hzl, _⟩ := fits_cells hfz hzrel
  have hobok := hok.obj id ob hob hl
  have hit := hobok.plain hbox
  obtain ⟨cur, ty0, fr0, hfr0, hblk, hsz0, hc2, hcells⟩ := hobok.block hit
  obtain ⟨hty', cap0, hcap0, hcapr⟩ := hc2 hbox
  cases hr with
  | ownStale i g row len o2 a n cap ho hs =>
    rw [ho] at hob
    obtain rfl := Option.some.inj hob
    rcases hs with h | h
    · rw [hl] at h; cases h
    · omega
  | own i g row len o2 cur2 ty2 off cap ho hl2 hg2 hbox2 hn hcap fr hfr hb hoff =>
    rw [ho] at hob
    obtain rfl := Option.some.inj hob
    rw [hblk] at hb
    simp only [Option.some.injEq, Go.Obj.cells.injEq] at hb
    obtain ⟨rfl, rfl, rfl⟩ := hb
    generalize hnn : lenOfOwn o2 row len = n at *
    have hgo : ∀ (cur' : Array Value) (w' : World), w'.os = s.w.os ∧ w'.output = s.w.output → s.w.heap.size ≤ w'.heap.size → (∀ k, k < s.w.heap.size → k ≠ s.loc id → w'.heap[k]? = s.w.heap[k]?) → w'.heap[s.loc id]? = some (.cells cur' ty0 fr0) → cur'.size = cur.size →
        (∀ k, cur'[k]? = if row * o2.es ≤ k ∧ k < (row + n) * o2.es then zv.cells[(k - row * o2.es) % o2.es]? else cur[k]?) →
        run = .ok (.value (.tuple #[])) w' →
        Done X s run (.tup []) (s.H.set id { o2 with rows := o2.rows.take row ++ List.replicate n z ++ o2.rows.drop (row + n) }) := by
      intro cur' w' hio hsize hkeep hnew hcsz hget hrun'
      have hlen : (o2.rows.take row ++ List.replicate n z ++ o2.rows.drop (row + n)).length = o2.rows.length := by simp; omega
      have hmem : ∀ q ∈ o2.rows.take row ++ List.replicate n z ++ o2.rows.drop (row + n), q ∈ o2.rows ∨ q = z := by
        intro q hq
        rcases List.mem_append.1 hq with hq | hq
        · rcases List.mem_append.1 hq with hq | hq
          · exact .inl (List.mem_of_mem_take hq)
          · exact .inr (List.eq_of_mem_replicate hq)
        · exact .inl (List.mem_of_mem_drop hq)
      obtain ⟨s', hw', hH', hloc', hst', hok'⟩ := update hok ho hl { o2 with rows := o2.rows.take row ++ List.replicate n z ++ o2.rows.drop (row + n), ver := o2.ver } (s.loc id) cur' ty0 (hfr0.size hcsz) (w' := w') (.inl rfl) hsize
        (fun k hk h => hkeep k hk (h.resolve_right fun h => h rfl)) hnew hl (Nat.le_refl _)
        (fun _ => ⟨rfl, hlen, rfl, rfl, fun c ty fr hc => by
          rw [hblk] at hc
          simp only [Option.some.injEq, Go.Obj.cells.injEq] at hc
          exact ⟨hc.2.1, hc.2.2, by rw [hcsz, hc.1]⟩⟩)
        (by simp only [hlen, hcsz]; exact hsz0) (fun _ => ⟨hty', cap0, by simp only [hcsz]; exact hcap0, by simp only [hlen]; exact hcapr⟩)
        (fun q hq => (hmem q hq).elim (hobok.es q) (fun e => by rw [e, hzl, hes])) (fun q hq => (hmem q hq).elim (hobok.cell q) (fun e => e ▸ hzc.cell)) (fun hb q hq => (hmem q hq).elim (hobok.free hb q) (fun e => e ▸ hzf))
        (by
          intro q c y x hy hx
          simp only at hy ⊢
          rw [clear_rows hn] at hy
          rw [hget]
          have hcl := (List.getElem?_eq_some_iff.1 hx).1
          by_cases hin : row ≤ q ∧ q < row + n
          · rw [if_pos hin] at hy
            simp at hy; subst hy
            rw [hzl, ← hes] at hcl
            have e1 : row * o2.es ≤ q * o2.es := Nat.mul_le_mul_right _ hin.1
            have e2 : (q + 1) * o2.es ≤ (row + n) * o2.es := Nat.mul_le_mul_right _ hin.2
            have e3 : q * o2.es + c - row * o2.es = (q - row) * o2.es + c := by rw [Nat.sub_mul]; omega
            rw [Nat.add_mul] at e2
            rw [if_pos (by omega), e3, Nat.mul_comm, Nat.mul_add_mod, Nat.mod_eq_of_lt hcl]
            have hcs : c < zv.cells.size := by rw [hzc.size, hzl, ← hes]; exact hcl
            exact ⟨zv.cells[c], Array.getElem?_eq_getElem hcs, hzc.rel c x _ hx (Array.getElem?_eq_getElem hcs)⟩
          · rw [if_neg hin] at hy
            have hyl := hobok.es y (List.mem_of_getElem? hy)
            rw [if_neg ?_]
            · exact hcells q c y x hy hx
            · rintro ⟨h1, h2⟩
              rcases Nat.lt_or_ge q row with hlt | hge
              · have : (q + 1) * o2.es ≤ row * o2.es := Nat.mul_le_mul_right _ (by omega)
                rw [Nat.add_mul] at this
                omega
              · have : (row + n) * o2.es ≤ q * o2.es := Nat.mul_le_mul_right _ (by omega)
                omega) hit (hio := hio)
      exact ⟨_, _, s', by rw [hw']; exact hrun', .inl rfl, hH', hst', hok', .tup [] #[] rfl (by simp)⟩
    by_cases hn0 : n = 0
    · subst hn0
      refine hgo cur s.w ⟨rfl, rfl⟩ (Nat.le_refl _) (fun _ _ _ => rfl) hblk rfl (fun k => by rw [if_neg (by simp only [Nat.add_zero]; omega)]) ?_
      rw [hrun]
      simp [Builtin.clear_, ht, run_underlying hu, Sem.run_bind, Sem.run_pure, Result.andThen_ok]
    · obtain ⟨ho1, ho2⟩ := hoff (by omega)
      have hfit : row * o2.es + (Builtin.zeroCells zv.cells n).toList.length ≤ cur.size := by
        rw [Array.length_toList, zeroCells_size, hzc.size, hzl, ← hes, ← Nat.add_mul, ← ho2]
        exact Nat.mul_le_mul_right _ (by omega)
      have hone : ∀ v ∈ (Builtin.zeroCells zv.cells n).toList, v.oneCell' = true := by
        intro v hv
        simp only [Builtin.zeroCells, Array.toList_map, List.mem_map] at hv
        obtain ⟨k, _, rfl⟩ := hv
        have hcs : 0 < zv.cells.size := by rw [hzc.size, hzl]; omega
        have hlt : k % zv.cells.size < zv.cells.size := Nat.mod_lt _ hcs
        rw [getElem!_pos zv.cells _ hlt]
        exact hzc.one _ (Array.getElem_mem_toList hlt)
      have hstore := run_storeCells_end X.P (s.loc id) (row * o2.es) ty0 fr0 (Builtin.zeroCells zv.cells n).toList 0 cur s.w hfr0 hblk (by simpa using hfit) hone
      simp only [Nat.add_zero] at hstore
      have hzlen : (Builtin.zeroCells zv.cells n).toList.length = n * o2.es := by rw [Array.length_toList, zeroCells_size, hzc.size, hzl, ← hes]
      refine hgo _ (s.w.setRow (s.loc id) (cur.toList.take (row * o2.es) ++ (Builtin.zeroCells zv.cells n).toList ++ cur.toList.drop (row * o2.es + (Builtin.zeroCells zv.cells n).toList.length)).toArray) ⟨rfl, rfl⟩ (by simp) (fun k _ hk => setRow_other _ _ _ _ hk) (setRow_heap _ _ _ _ _ _ hblk) (by simp only [List.size_toArray, List.length_append, List.length_take, List.length_drop, Array.length_toList] at hfit ⊢; omega) (fun k => ?_) ?_
      · rw [clear_cells hfit, hzlen, Nat.add_mul]
        by_cases hin : row * o2.es ≤ k ∧ k < row * o2.es + n * o2.es
        · rw [if_pos hin, if_pos hin]
          simp only [Builtin.zeroCells, Array.toList_map, Array.toList_range, List.getElem?_map]
          rw [List.getElem?_range (by rw [hzc.size, hzl, ← hes]; omega)]
          have hcs : 0 < zv.cells.size := by rw [hzc.size, hzl]; omega
          have hlt : (k - row * o2.es) % zv.cells.size < zv.cells.size := Nat.mod_lt _ hcs
          have hsz : zv.cells.size = o2.es := by rw [hzc.size, hzl, hes]
          simp only [Option.map_some]
          rw [getElem!_pos zv.cells _ hlt]
          rw [show (k - row * o2.es) % o2.es = (k - row * o2.es) % zv.cells.size by rw [hsz]]
          exact (Array.getElem?_eq_getElem hlt).symm
        · rw [if_neg hin, if_neg hin]
      · rw [hrun]
        subst ho1
        obtain ⟨m, rfl⟩ : ∃ m, n = m + 1 := ⟨n - 1, by omega⟩
        simp only [Builtin.clear_, ht, Sem.run_bind, run_underlying hu, Result.andThen_ok, Sem.run_pure, hzr, List.getElem?_toArray, List.getElem?_cons_zero, ad]
        rw [hstore]
        rfl

theorem sound_builtin {b : Builtin} {args : Array Operand} {ts : Array TypeId} (hop : o.op = .call { callee := .builtin b, args := args, argTypes := ts }) (hok : Ok X s) (hρ : ∀ x, Rel s (ρ x) (av x))
    (e : opK X g o ρ s.H (fun v h t => some (v, h, t)) = some (v, h', tg)) : Done X s ((execOp av o).run X.P s.w) v h' := by
  obtain ⟨consts, hrun0⟩ := builtin_run (o := o) (av := av) hop (P := X.P) s.w
  simp only [opK, hop] at e
  unfold builtinK at e
  split at e
  · -- len of a text
    rename_i str hargs
    obtain ⟨x, rfl, hx⟩ := map_one hargs
    have hr := hρ x
    rw [hx] at hr
    obtain ⟨hvx, _⟩ := hr.v_inv
    split at e
    · rename_i hu
      obtain ⟨t, ht, hu⟩ := bind_underlying hu
      simp only [Option.some.injEq, Prod.mk.injEq] at e
      obtain ⟨rfl, rfl, rfl⟩ := e
      refine Done.pure hok (cv := goInt str.size) (run_op hrun0 ?_) (.v _ rfl)
      simp [Builtin.len_, ht, hvx, run_underlying hu]
    · cases e
  · rename_i es nl rows hargs
    obtain ⟨x, rfl, hx⟩ := map_one hargs
    have hr := hρ x
    rw [hx] at hr
    split at e
    · rename_i el hu
      obtain ⟨t, ht, hu⟩ := bind_underlying hu
      simp only [Option.some.injEq, Prod.mk.injEq] at e
      obtain ⟨rfl, rfl, rfl⟩ := e
      refine Done.pure hok (cv := goInt rows.length) (run_op hrun0 ?_) (.v _ rfl)
      generalize hvx : av x = vx at hr
      cases hr <;> simp [Builtin.len_, ht, hvx, run_underlying hu]
    · cases e
  · rename_i id gen row len hargs
    obtain ⟨x, rfl, hx⟩ := map_one hargs
    have hr := hρ x
    rw [hx] at hr
    split at e
    · rename_i el hu
      obtain ⟨t, ht, hu⟩ := bind_underlying hu
      obtain ⟨ob, hob, hl, hg, e1⟩ := objK_some e
      simp only [Option.some.injEq, Prod.mk.injEq] at e1
      obtain ⟨rfl, rfl, rfl⟩ := e1
      refine Done.pure hok (cv := goInt (lenOfOwn ob row len)) (run_op hrun0 ?_) (.v _ rfl)
      generalize hvx : av x = vx at hr
      cases hr with
      | own i g row len o2 cur ty off cap ho hl2 hg2 hbox hn hcap fr hfr hblk hoff =>
        rw [ho] at hob
        obtain rfl := Option.some.inj hob
        simp [Builtin.len_, ht, hvx, run_underlying hu]
      | ownStale i g row len o2 a n cap ho hs =>
        rw [ho] at hob
        obtain rfl := Option.some.inj hob
        rcases hs with h | h
        · rw [hl] at h; cases h
        · omega
    · cases e
  · rename_i k n k' m hargs
    obtain ⟨x, y, rfl, hx, hy⟩ := map_two hargs
    have hrx := hρ x
    have hry := hρ y
    rw [hx] at hrx
    rw [hy] at hry
    obtain ⟨hvx, _⟩ := hrx.v_inv
    obtain ⟨hvy, _⟩ := hry.v_inv
    obtain ⟨hk, e1⟩ := ite_yes e
    subst hk
    simp only [Option.some.injEq, Prod.mk.injEq] at e1
    obtain ⟨rfl, rfl, rfl⟩ := e1
    refine Done.pure hok (run_op hrun0 ?_) (.v _ rfl)
    simp [Builtin.min_, Builtin.min2, hvx, hvy]
  · rename_i k n k' m hargs
    obtain ⟨x, y, rfl, hx, hy⟩ := map_two hargs
    have hrx := hρ x
    have hry := hρ y
    rw [hx] at hrx
    rw [hy] at hry
    obtain ⟨hvx, _⟩ := hrx.v_inv
    obtain ⟨hvy, _⟩ := hry.v_inv
    obtain ⟨hk, e1⟩ := ite_yes e
    subst hk
    simp only [Option.some.injEq, Prod.mk.injEq] at e1
    obtain ⟨rfl, rfl, rfl⟩ := e1
    refine Done.pure hok (run_op hrun0 ?_) (.v _ rfl)
    simp [Builtin.max_, Builtin.max2, hvx, hvy]
  · -- clear
    rename_i sv hargs
    obtain ⟨x, rfl, hx⟩ := map_one hargs
    have hr := hρ x
    rw [hx] at hr
    split at e
    · rename_i el hu
      obtain ⟨t, ht, hu⟩ := bind_underlying hu
      split at e
      · rename_i z hz
        split at e
        · rename_i id gen row len
          obtain ⟨ob, hob, hl, hg, e1⟩ := objK_some e
          obtain ⟨hb, e2⟩ := br_yes e1
          simp only [Bool.and_eq_true, Bool.not_eq_true'] at hb
          simp only [setK, Option.some.injEq, Prod.mk.injEq] at e2
          obtain ⟨rfl, rfl, rfl⟩ := e2
          refine sound_clear (ty := o.type) (t := t) ht hok hu hr hob hl hg hz hb.1.1.1.1 (not_beq (by simp [hb.1.1.1.2])) hb.1.1.2 (Nat.eq_of_beq_eq_true hb.1.2) (Nat.eq_of_beq_eq_true hb.2) ?_
          simp only [List.map_toArray, List.map_cons, List.map_nil] at hrun0
          exact hrun0
        · cases e
      · cases e
    · cases e
  · -- cap of nothing
    rename_i es hargs
    obtain ⟨x, rfl, hx⟩ := map_one hargs
    have hr := hρ x
    rw [hx] at hr
    split at e
    · rename_i el hu
      obtain ⟨t, ht, hu⟩ := bind_underlying hu
      simp only [Option.some.injEq, Prod.mk.injEq] at e
      obtain ⟨rfl, rfl, rfl⟩ := e
      refine Done.pure hok (cv := goInt 0) (run_op hrun0 ?_) (.v _ rfl)
      have hvx : av x = .slice none 0 0 := by
        generalize av x = vx at hr
        cases hr
        rfl
      simp [Builtin.cap_, ht, hvx, run_underlying hu]
    · cases e
  · -- append
    rename_i sv xv hargs
    obtain ⟨x, y, rfl, hx, hy⟩ := map_two hargs
    have hrx := hρ x
    have hry := hρ y
    rw [hx] at hrx
    rw [hy] at hry
    split at e
    · rename_i t1 t2 hts
      have hts' : ts = #[t1, t2] := by
        obtain ⟨l⟩ := ts
        simp at hts
        rw [hts]
      subst hts'
      split at e
      · cases e
      · rename_i el hel
        have hu := elemT_some hel
        have hrun : (execOp av o).run X.P s.w = (do pure (.value (← Builtin.append_ #[t1, t2] o.type #[av x, av y])) : Sem Next).run X.P s.w := by
          simp only [List.map_toArray, List.map_cons, List.map_nil] at hrun0
          exact hrun0
        split at e
        · rename_i hint
          split at e
          · rename_i es n
            have hvx : av x = .slice none 0 0 := by
              generalize av x = vx at hrx
              cases hrx
              rfl
            obtain ⟨hvy, _⟩ := hry.v_inv
            split at e
            · rename_i z hz
              obtain ⟨h0, e0⟩ := br_yes e
              obtain ⟨h1, e1⟩ := br_yes e0
              obtain ⟨h2, e2⟩ := br_yes e1
              simp only [Bool.and_eq_true] at h0 h2
              simp only [newK, Option.some.injEq, Prod.mk.injEq] at e2
              obtain ⟨rfl, rfl, rfl⟩ := e2
              rw [hvx, hvy] at hrun
              exact append_ints hok hu hint hrun hz h0.1 (not_beq h0.2) (of_decide_eq_true h1) h2.1 h2.2
            · cases e
          · cases e
        · split at e
          · cases e
          rename_i hb
          simp only [Bool.and_eq_true] at hb
          obtain ⟨d2, ht2, hd2⟩ := appendOk_some hu hb.2
          obtain ⟨z, hz, hfz, hpos⟩ := zeroFits_some hb.1
          split at e
          · -- to nothing
            obtain ⟨rs, news, e1, hlies, hnsz, hone, hlen, hnew⟩ := rowsK_news (P := X.P) hok e hry hpos
            have hvx : av x = .slice none 0 0 := by
              generalize av x = vx at hrx
              cases hrx
              rfl
            rw [hvx] at hrun
            obtain ⟨k1, k2⟩ := append_nil hok hu ht2 hd2 hrun hlies hnsz hone hlen hnew hz hpos hfz
            rcases br_some e1 with ⟨h1, e3⟩ | ⟨h1, e3⟩
            · simp only [Option.some.injEq, Prod.mk.injEq] at e3
              obtain ⟨rfl, rfl, rfl⟩ := e3
              exact k1 (List.isEmpty_iff.1 h1)
            · obtain ⟨h2, e4⟩ := br_yes e3
              simp only [Bool.and_eq_true] at h2
              simp only [newK, Option.some.injEq, Prod.mk.injEq] at e4
              obtain ⟨rfl, rfl, rfl⟩ := e4
              exact k2 (fun h => by rw [h] at h1; cases h1) h2.1 h2.2
          · -- to one's own
            rename_i id gen len
            obtain ⟨rs, news, e1, hlies, hnsz, hone, hlen, hnew⟩ := rowsK_news (P := X.P) hok e hry hpos
            obtain ⟨ob, hob, hl, hg, e2⟩ := objK_some e1
            obtain ⟨hchk, e3⟩ := br_yes e2
            obtain ⟨hlens, e4⟩ := br_yes e3
            simp only [Bool.and_eq_true, Bool.not_eq_true'] at hchk hlens
            simp only [setK, Option.some.injEq, Prod.mk.injEq] at e4
            obtain ⟨rfl, rfl, rfl⟩ := e4
            refine append_own hok hu ht2 hd2 hrun hrx hob hl hg hchk.1.1.1 (Nat.eq_of_beq_eq_true hchk.1.1.2) (Nat.eq_of_beq_eq_true hchk.1.2) (R := subRows ob.rows 0 len) ?_ ?_ hlies hnsz hone hlen hnew hz hpos hfz hlens.1 hlens.2
            · cases len with
              | none => simp [subRows]
              | some n => simp [subRows]
            · cases len with
              | none => rfl
              | some n =>
                have := Nat.le_of_ble_eq_true hchk.2
                show n = (ob.rows.take n).length
                rw [List.length_take]
                omega
          · cases e
    · cases e
  · cases e

/-- A range over a string begins. -/
theorem sound_range {t : TypeId} {x : Operand} (hop : o.op = .range t x) (hok : Ok X s) (hρ : ∀ x, Rel s (ρ x) (av x))
    (e : opK X g o ρ s.H (fun v h t => some (v, h, t)) = some (v, h', tg)) : Done X s ((execOp av o).run X.P s.w) v h' := by
  have hx := hρ x
  simp only [opK, hop] at e
  split at e
  · rename_i str ht hpx
    rw [hpx] at hx
    obtain ⟨hv, _⟩ := hx.v_inv
    simp only [newK, Option.some.injEq, Prod.mk.injEq] at e
    obtain ⟨rfl, rfl, rfl⟩ := e
    have hone : ∀ s' : St, Step s s' → s'.w = s.w.alloc (.stringIter str 0) → s'.loc s.H.length = s.w.heap.size → s'.mask = s.mask →
        ObjOk s' s.H.length { rows := [.junk], gen := 0, ver := 0, live := true, box := true, ty := t, es := 1, it := some (str, 0) } := by
      intro s' hst hw hloc hm
      refine ⟨(fun h => by cases h), ?_, ?_, (fun h => by cases h), ?_, ?_⟩
      · intro r hr
        simp only [List.mem_singleton] at hr
        subst hr; rfl
      · intro r hr c hc
        simp only [List.mem_singleton] at hr
        subst hr
        simp only [AV.cells, List.mem_singleton] at hc
        subst hc; rfl
      · intro hx
        rw [hloc, hm] at hx
        have := hok.maskLt _ hx
        omega
      · intro p hp
        cases hp
        refine ⟨rfl, ?_⟩
        rw [hloc, hw]
        have he : (s.w.alloc (.stringIter str 0)).heap = s.w.heap.push (.stringIter str 0) := rfl
        rw [he]
        simp
    obtain ⟨s', hw, hH, hloc, hst, hok'⟩ := pushAny hok { rows := [.junk], gen := 0, ver := 0, live := true, box := true, ty := t, es := 1, it := some (str, 0) } (.stringIter str 0) (w' := s.w.alloc (.stringIter str 0)) rfl hone
    refine ⟨_, .pointer (some ⟨s.w.heap.size, 0, none⟩), s', ?_, .inl rfl, hH, hst, hok', ?_⟩
    · rw [hw]
      simp [execOp, hop, Instr.range, hv, run_underlying ht]
    · have hme : s'.H[s.H.length]? = some { rows := [.junk], gen := 0, ver := 0, live := true, box := true, ty := t, es := 1, it := some (str, 0) } := by rw [hH]; simp
      have := Rel.ptr (s := s') s.H.length 0 0 0 _ hme rfl rfl (by simp)
      rw [hloc] at this
      simpa [ad] using this
  · cases e

/-- A range over a string goes on. -/
theorem sound_next {it : Operand} {b : Bool} (hop : o.op = .next it b) (hok : Ok X s) (hρ : ∀ x, Rel s (ρ x) (av x))
    (e : opK X g o ρ s.H (fun v h t => some (v, h, t)) = some (v, h', tg)) : Done X s ((execOp av o).run X.P s.w) v h' := by
  have hx := hρ it
  simp only [opK, hop] at e
  split at e
  · rename_i id gen hpx
    rw [hpx] at hx
    obtain ⟨ob, str, p, hob, hl, hg, hit, e1⟩ := iterObjK_some e
    clear e
    have hobok := hok.obj id ob hob hl
    obtain ⟨hbox, hblk⟩ := hobok.iter _ hit
    simp only [] at hblk
    generalize hva : av it = va at hx
    cases hx with
    | ptrStale i g' row off o' a ho hs =>
      rw [ho] at hob
      obtain rfl := Option.some.inj hob
      rcases hs with h | h
      · rw [hl] at h; cases h
      · omega
    | ptr i g' row off o' ho hl' hg' hrow =>
      rw [ho] at hob
      obtain rfl := Option.some.inj hob
      simp only [Nat.zero_mul, Nat.zero_add, ad] at hva
      have hgo : (getObj (s.loc id)).run X.P s.w = .ok (.stringIter str p) s.w := by simp [getObj, Sem.run, hblk]
      rcases br_some e1 with ⟨hlt, e1⟩ | ⟨hge, e1⟩
      · have hlt : p < str.size := by simpa [Nat.blt_eq] using hlt
        simp only [setK, Option.some.injEq, Prod.mk.injEq] at e1
        obtain ⟨rfl, rfl, rfl⟩ := e1
        have hbl := (Array.getElem?_eq_some_iff.1 hblk).1
        have hone : ∀ s' : St, Step s s' → s'.w = { s.w with heap := s.w.heap.setIfInBounds (s.loc id) (.stringIter str (p + (Utf8.decode str p).2)) } → s'.loc id = s.loc id → ¬ s'.mask (s.loc id) →
            ObjOk s' id { o' with it := some (str, p + (Utf8.decode str p).2), ver := o'.ver } := by
          intro s' hst hw hloc hm
          refine ⟨(fun h => by cases h), hobok.es, hobok.cell, hobok.free, (by rw [hloc]; exact hm), fun q hq => ?_⟩
          cases hq
          refine ⟨hbox, ?_⟩
          rw [hloc, hw]
          simp only []
          rw [Array.getElem?_setIfInBounds_self_of_lt hbl]
        obtain ⟨s', hw, hH, hloc, hst, hok'⟩ := updateAny hok ho hl { o' with it := some (str, p + (Utf8.decode str p).2), ver := o'.ver } (s.loc id) (.stringIter str (p + (Utf8.decode str p).2))
          (w' := { s.w with heap := s.w.heap.setIfInBounds (s.loc id) (.stringIter str (p + (Utf8.decode str p).2)) }) (.inl rfl) (by simp)
          (fun k _ hk => by
            have hk := hk.resolve_right (fun h => h rfl)
            simp only []
            rw [Array.getElem?_setIfInBounds_ne (Ne.symm hk)])
          (by simp only []; rw [Array.getElem?_setIfInBounds_self_of_lt hbl]) hl (Nat.le_refl _)
          (fun _ => ⟨rfl, rfl, rfl, rfl, fun cur ty _ hc => by rw [hblk] at hc; cases hc⟩) hone
        refine ⟨_, .tuple #[.bool true, goInt p, .int .i32 (Utf8.decode str p).1], s', ?_, .inl rfl, hH, hst, hok', ?_⟩
        · rw [hw]
          have hset : (Go.setObj (s.loc id) (.stringIter str (p + (Utf8.decode str p).2))).run X.P s.w = .ok () { s.w with heap := s.w.heap.setIfInBounds (s.loc id) (.stringIter str (p + (Utf8.decode str p).2)) } := by
            simp only [Go.setObj, Sem.run, hblk]
          simp only [execOp, hop, Instr.next, hva, Sem.run_bind, hgo, Result.andThen_ok, hlt, if_true, hset, Sem.run_pure]
        · refine .tup _ _ rfl ?_
          intro j x y hx hy
          match j with
          | 0 => simp at hx hy; subst hx; subst hy; exact .v _ rfl
          | 1 => simp at hx hy; subst hx; subst hy; exact .v _ rfl
          | 2 => simp at hx hy; subst hx; subst hy; exact .v _ rfl
          | j + 3 => simp at hx
      · have hge : ¬ p < str.size := fun h => by rw [show p.blt str.size = true by rw [Nat.blt_eq]; exact h] at hge; cases hge
        simp only [Option.some.injEq, Prod.mk.injEq] at e1
        obtain ⟨rfl, rfl, rfl⟩ := e1
        refine Done.pure hok (cv := .tuple #[.bool false]) ?_ ?_
        · simp only [execOp, hop, Instr.next, hva, Sem.run_bind, hgo, Result.andThen_ok, hge, if_false, Sem.run_pure]
        · refine .tup _ _ rfl ?_
          intro j x y hx hy
          match j with
          | 0 => simp at hx hy; subst hx; subst hy; exact .v _ rfl
          | j + 1 => simp at hx
  · cases e

/-- Every operation that is no call of a function. -/
theorem op_sound (hok : Ok X s) (hρ : ∀ x, Rel s (ρ x) (av x))
    (e : opK X g o ρ s.H (fun v h t => some (v, h, t)) = some (v, h', tg)) : Done X s ((execOp av o).run X.P s.w) v h' := by
  cases hop : o.op with
  | move x => exact sound_move (.inl hop) hok hρ e
  | assign x => exact sound_move (.inr hop) hok hρ e
  | pick b x y => exact sound_pick hop hok hρ e
  | alloc t => exact sound_alloc hop hok hρ e
  | box t x => exact sound_box hop hok hρ e
  | build t ps => exact sound_build hop hok hρ e
  | buildSlice t n ps => exact sound_buildSlice hop hok hρ e
  | load t a => exact sound_load hop hok hρ e
  | store t a v => exact sound_store hop hok hρ e
  | nilCheck x => exact sound_nilCheck hop hok hρ e
  | binOp op t x y yt => exact sound_binOp hop hok hρ e
  | unOp op t x => exact sound_unOp hop hok hρ e
  | convert a b x => exact sound_convert hop hok hρ e
  | makeInterface t x => exact sound_makeInterface hop hok hρ e
  | makeFunc f a b => exact sound_makeFunc hop hok hρ e
  | makeSlice t l c => exact sound_makeSlice hop hok hρ e
  | slice t x a b c => exact sound_slice hop hok hρ e
  | fieldAddr t x i => exact sound_fieldAddr hop hok hρ e
  | field t x i => exact sound_field hop hok hρ e
  | indexAddr t x i => exact sound_indexAddr hop hok hρ e
  | index t x i => exact sound_index hop hok hρ e
  | typeAssert x a b c => exact sound_typeAssert hop hok hρ e
  | extract t i => exact sound_extract hop hok hρ e
  | call c =>
    obtain ⟨callee, args, ts⟩ := c
    cases callee with
    | builtin b => exact sound_builtin hop hok hρ e
    | _ => simp [opK, hop] at e
  | range t x => exact sound_range hop hok hρ e
  | next x b => exact sound_next hop hok hρ e
  | _ => simp [opK, hop] at e
end
end Go.Ab
