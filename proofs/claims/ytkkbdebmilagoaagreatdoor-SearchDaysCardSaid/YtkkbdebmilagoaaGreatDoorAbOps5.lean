/- Each operation of the abstract machine is the model's: memory, again. -/
import Derived.Test.YtkkbdebmilagoaaGreatDoorAbOps4
set_option linter.unusedSimpArgs false
set_option linter.unusedVariables false
namespace Go.Ab
open Go

section
variable {X : Ctx} {s : St} {g : FuncId} {o : Oper} {ρ : Operand → AV} {av : Operand → Value} {v : AV} {h' : Heap} {tg : Tag}

theorem run_places {P : Program} {w : World} (l : List Field) (h : l.all (fun f => (P.info? f.type).isSome) = true) :
    (l.mapM fun f => (do pure (f.offset, ← sizeOf f.type) : Sem (Nat × Nat))).run P w = .ok (l.map fun f => (f.offset, P.cellsOf f.type)) w := by
  induction l with
  | nil => rfl
  | cons f l ih =>
    simp only [List.all_cons, Bool.and_eq_true] at h
    obtain ⟨i, hi⟩ := Option.isSome_iff_exists.1 h.1
    have hf : (do pure (f.offset, ← sizeOf f.type) : Sem (Nat × Nat)).run P w = .ok (f.offset, P.cellsOf f.type) w := by
      simp [sizeOf, typeInfo, hi, Program.cellsOf]
    rw [List.mapM_cons, Sem.run_bind, hf, Result.andThen_ok, Sem.run_bind, ih h.2]
    rfl

theorem sound_build {t : TypeId} {parts : Array (Nat × Operand)} (hop : o.op = .build t parts) (hok : Ok X s) (hρ : ∀ x, Rel s (ρ x) (av x))
    (e : opK X g o ρ s.H (fun v h t => some (v, h, t)) = some (v, h', tg)) : Done X s ((execOp av o).run X.P s.w) v h' := by
  have hrun : (execOp av o).run X.P s.w = (do pure (.value (← Instr.build t (parts.map fun (i, x) => (i, av x)))) : Sem Next).run X.P s.w := by simp only [execOp, hop]
  simp only [opK, hop] at e
  split at e
  · rename_i z hz
    obtain ⟨zv, hzr, hzrel, hzc, hzf⟩ := zeroOf_rel (s := s) hz
    obtain ⟨zs, hzv, _⟩ := Cells.of_agg hzrel
    subst hzv
    split at e
    · rename_i fs hu
      split at e
      · cases e
      · rename_i hall
        split at e
        · rename_i cs hfill
          simp only [Option.some.injEq, Prod.mk.injEq] at e
          obtain ⟨rfl, rfl, rfl⟩ := e
          have hplaces := run_places (P := X.P) (w := s.w) fs.toList hall
          obtain ⟨vout, h1, h2, h3, h4⟩ := fillCells_run (s := s) (place := fun i => (fs[i]?).map fun fd => (fd.offset, fd.type)) (pl := fun i => ((fs.toList.map fun f => (f.offset, X.P.cellsOf f.type)).toArray)[i]?)
            (fun i off t h => by
              simp only [Option.map_eq_some_iff] at h
              obtain ⟨fd, hfd, h⟩ := h
              simp only [Prod.mk.injEq] at h
              obtain ⟨rfl, rfl⟩ := h
              simp [hfd])
            (vparts := (parts.map fun (i, x) => (i, av x)).toList) (vcells := zs) hfill (by simp) (parts_rel hρ) hzc.size hzc.cell hzc.rel
          refine Done.pure hok (run_op hrun (cv := .agg vout) ?_) (.agg cs vout h2 h3 h4)
          simp only [Instr.build, Sem.run_bind, hzr, Result.andThen_ok, run_underlying hu, Value.cells]
          rw [Array.mapM_eq_mapM_toList]
          simp only [Sem.run_map, hplaces, Result.andThen_ok]
          rw [h1]
          rfl
        · cases e
    · rename_i len el hu
      split at e
      · cases e
      · rename_i hne
        split at e
        · rename_i cs hfill
          simp only [Option.some.injEq, Prod.mk.injEq] at e
          obtain ⟨rfl, rfl, rfl⟩ := e
          have hsz := run_sizeOf_pos (P := X.P) (t := el) (fun h => by rw [h] at hne; cases hne) s.w
          obtain ⟨vout, h1, h2, h3, h4⟩ := fillCells_run (s := s) (place := fun i => some (i * X.P.cellsOf el, el)) (pl := fun i => some (i * X.P.cellsOf el, X.P.cellsOf el))
            (fun i off t h => by
              simp only [Option.some.injEq, Prod.mk.injEq] at h
              obtain ⟨rfl, rfl⟩ := h
              rfl)
            (vparts := (parts.map fun (i, x) => (i, av x)).toList) (vcells := zs) hfill (by simp) (parts_rel hρ) hzc.size hzc.cell hzc.rel
          refine Done.pure hok (run_op hrun (cv := .agg vout) ?_) (.agg cs vout h2 h3 h4)
          simp only [Instr.build, Sem.run_bind, hzr, Result.andThen_ok, run_underlying hu, Value.cells, hsz]
          rw [h1]
          rfl
        · cases e
    · cases e
  · cases e

/-- Rows that lie in a block of cells. -/
structure Lies (s : St) (k : Nat) (rows : List AV) (cur : Array Value) : Prop where
  es : ∀ r ∈ rows, r.cells.length = k
  cell : ∀ r ∈ rows, ∀ c ∈ r.cells, isCell c = true
  free : ∀ r ∈ rows, refFree r = true
  size : rows.length * k ≤ cur.size
  rel : ∀ (r c : Nat) (x y : AV), rows[r]? = some x → x.cells[c]? = some y → ∃ v, cur[r * k + c]? = some v ∧ Rel s y v

theorem Lies.replicate {z : AV} {zv : Value} (hc : Cells s z zv) (hf : refFree z = true) (hpos : z.cells.length ≠ 0) (n m : Nat) (hn : n ≤ m) :
    Lies s z.cells.length (List.replicate n z) ((Array.range (m * z.cells.length)).map (fun k => zv.cells[k % zv.cells.size]!)) := by
  refine ⟨by simp, ?_, ?_, by simp only [List.length_replicate, Array.size_map, Array.size_range]; exact Nat.mul_le_mul_right _ hn, ?_⟩
  · intro r hr
    rw [List.eq_of_mem_replicate hr]; exact hc.cell
  · intro r hr
    rw [List.eq_of_mem_replicate hr]; exact hf
  · intro r c x y hx hy
    rw [List.getElem?_replicate] at hx
    split at hx
    · rename_i hr
      simp at hx; subst hx
      have hcl := (List.getElem?_eq_some_iff.1 hy).1
      have hlt : r * z.cells.length + c < m * z.cells.length := by
        have : (r + 1) * z.cells.length ≤ m * z.cells.length := Nat.mul_le_mul_right _ (by omega)
        rw [Nat.add_mul] at this
        omega
      have hcs : c < zv.cells.size := by rw [hc.size]; exact hcl
      have hmod : (r * z.cells.length + c) % zv.cells.size = c := by
        rw [hc.size, Nat.mul_comm, Nat.mul_add_mod, Nat.mod_eq_of_lt hcl]
      refine ⟨zv.cells[c], ?_, hc.rel c y _ hy (Array.getElem?_eq_getElem hcs)⟩
      simp only [Array.getElem?_map, Array.getElem?_range, hlt, if_true, Option.map_some, hmod]
      simp [hcs]
    · cases hx

theorem Lies.set {es : Nat} {rows : List AV} {cur : Array Value} (h : Lies s es rows cur) {i : Nat} (hi : i < rows.length) {x : AV} {v : Value} (hc : Cells s x v) (hf : refFree x = true) (hl : x.cells.length = es) :
    Lies s es (rows.set i x) (v.cells.zipIdx.foldl (fun cs (p : Value × Nat) => cs.setIfInBounds (i * es + p.2) p.1) cur) ∧
    (v.cells.zipIdx.foldl (fun cs (p : Value × Nat) => cs.setIfInBounds (i * es + p.2) p.1) cur).size = cur.size := by
  have hle : i * es + es ≤ cur.size := by
    have : (i + 1) * es ≤ rows.length * es := Nat.mul_le_mul_right _ (by omega)
    rw [Nat.add_mul] at this
    have := h.size
    omega
  have hvl : v.cells.toList.length = es := by rw [Array.length_toList, hc.size, hl]
  have hfold := foldl_set v.cells.toList 0 (i * es) cur (by omega)
  have hfe : (v.cells.zipIdx.foldl (fun cs (p : Value × Nat) => cs.setIfInBounds (i * es + p.2) p.1) cur) = ((v.cells.toList.zipIdx 0).foldl (fun cs (p : Value × Nat) => cs.setIfInBounds (i * es + p.2) p.1) cur) := by
    rw [← Array.foldl_toList]; simp
  have hmem : ∀ r ∈ rows.set i x, r ∈ rows ∨ r = x := fun r hr => List.mem_or_eq_of_mem_set hr
  rw [hfe]
  refine ⟨⟨fun r hr => (hmem r hr).elim (h.es r) (fun e => e ▸ hl), fun r hr => (hmem r hr).elim (h.cell r) (fun e => e ▸ hc.cell), fun r hr => (hmem r hr).elim (h.free r) (fun e => e ▸ hf), ?_, ?_⟩, hfold.1⟩
  · rw [hfold.1]; simpa using h.size
  · intro r c y z hy hz
    rw [hfold.2]
    simp only [Nat.add_zero, hvl]
    by_cases hri : r = i
    · subst hri
      rw [List.getElem?_set_self (by omega)] at hy
      simp at hy; subst hy
      have hcl := (List.getElem?_eq_some_iff.1 hz).1
      rw [if_pos (by omega)]
      have hcs : c < v.cells.size := by rw [hc.size]; exact hcl
      refine ⟨v.cells[c], ?_, hc.rel c z _ hz (Array.getElem?_eq_getElem hcs)⟩
      rw [show r * es + c - r * es = c by omega, Array.getElem?_toList]
      exact Array.getElem?_eq_getElem hcs
    · rw [List.getElem?_set_ne (Ne.symm hri)] at hy
      have hcl := (List.getElem?_eq_some_iff.1 hz).1
      have hyl := h.es y (List.mem_of_getElem? hy)
      rw [if_neg ?_]
      · exact h.rel r c y z hy hz
      · rintro ⟨h1, h2⟩
        rcases Nat.lt_or_gt_of_ne hri with hlt | hgt
        · have : (r + 1) * es ≤ i * es := Nat.mul_le_mul_right _ (by omega)
          rw [Nat.add_mul] at this
          omega
        · have : (i + 1) * es ≤ r * es := Nat.mul_le_mul_right _ (by omega)
          rw [Nat.add_mul] at this
          omega

theorem fillRows_run {P : Program} {el : TypeId} : ∀ {parts : List (Nat × AV)} {vparts : List (Nat × Value)} {rows out : List AV} {cur : Array Value},
    fillRows P el rows parts = some out → parts.length = vparts.length →
    (∀ (j : Nat) (p : Nat × AV) (q : Nat × Value), parts[j]? = some p → vparts[j]? = some q → p.1 = q.1 ∧ Rel s p.2 q.2) →
    Lies s (P.cellsOf el) rows cur →
    ∃ vout, Instr.fill (fun i => some (i * P.cellsOf el, P.cellsOf el)) cur vparts = some vout ∧ vout.size = cur.size ∧ out.length = rows.length ∧ Lies s (P.cellsOf el) out vout
  | [], [], rows, out, cur, e, _, _, hl => by simp [fillRows] at e; subst e; exact ⟨cur, rfl, rfl, rfl, hl⟩
  | [], _ :: _, _, _, _, _, hl, _, _ => by simp at hl
  | _ :: _, [], _, _, _, _, hl, _, _ => by simp at hl
  | (i, x) :: rest, (i', x') :: vrest, rows, out, cur, e, hl, hp, hlies => by
    simp only [fillRows] at e
    split at e
    · rename_i hf
      simp only [Bool.and_eq_true] at hf
      obtain ⟨hi, hx⟩ := hp 0 _ _ rfl rfl
      simp only at hi hx
      obtain ⟨hc, hlen, _⟩ := fits_cells hf.1.1 (normT_rel (P := P) (t := el) hx)
      have hlt : i < rows.length := by simpa [Nat.blt_eq] using hf.2
      have hfree : refFree (normT P el x) = true := by
        unfold normT
        split
        · split
          · rfl
          · exact hf.1.2
        · exact hf.1.2
      obtain ⟨h1, h2⟩ := hlies.set hlt hc hfree hlen
      obtain ⟨vout, k1, k2, k3, k4⟩ := fillRows_run e (by simpa using hl) (fun j p q h1 h2 => hp (j + 1) p q (by simpa using h1) (by simpa using h2)) h1
      refine ⟨vout, ?_, by rw [k2, h2], by rw [k3]; simp, k4⟩
      subst hi
      simp only [Instr.fill]
      have hle : i * P.cellsOf el + P.cellsOf el ≤ cur.size := by
        have : (i + 1) * P.cellsOf el ≤ rows.length * P.cellsOf el := Nat.mul_le_mul_right _ (by omega)
        rw [Nat.add_mul] at this
        have := hlies.size
        omega
      rw [if_neg (by simp only [hc.size, hlen, Bool.or_eq_true, decide_eq_true_eq, not_or]; omega)]
      exact k1
    · cases e

/-- A slice of the machine's own, made. -/
theorem run_storeCells_end (P : Program) (g o : Nat) (t : TypeId) (fr : Nat × Nat) : ∀ (vs : List Value) (i : Nat) (cur : Array Value) (w : World), FrOk cur fr → w.heap[g]? = some (.cells cur t fr) → o + i + vs.length ≤ cur.size → (∀ v ∈ vs, v.oneCell' = true) →
    (storeCells ⟨g, o, none⟩ vs i).run P w = .ok () (w.setRow g (cur.toList.take (o + i) ++ vs ++ cur.toList.drop (o + i + vs.length)).toArray)
  | [], i, cur, w, hfr, hg, _, _ => by
    simp only [storeCells, List.append_nil, List.length_nil, Nat.add_zero, List.take_append_drop, Array.toArray_toList]
    rw [setRow_self w g cur t fr hg]
    rfl
  | v :: rest, i, cur, w, hfr, hg, hl, h1 => by
    have hi : o + i < cur.size := by simp at hl; omega
    have hadd : (⟨g, o, none⟩ : Addr).add i = ⟨g, o + i, none⟩ := by unfold Addr.add; split <;> simp_all
    have hcell : w.cell? ⟨g, o + i, none⟩ = some cur[o + i] := by simp [World.cell?, hg, hi]
    have hfro : w.frozen? ⟨g, o + i, none⟩ = false := by
      rcases hfr with rfl | hfr
      · simp [World.frozen?, hg]
      · simp [World.frozen?, hg]; omega
    have hst : (store ((⟨g, o, none⟩ : Addr).add i) v).run P w = .ok () (w.setRow g (cur.setIfInBounds (o + i) v)) := by
      rw [hadd, run_store P w _ v _ (h1 v (by simp)), hcell]
      simp [hfro, setCell_eq_setRow w g (o + i) cur t fr v hg]
    have ih := run_storeCells_end P g o t fr rest (i + 1) (cur.setIfInBounds (o + i) v) (w.setRow g (cur.setIfInBounds (o + i) v)) (hfr.size (by simp)) (setRow_heap w g cur _ t _ hg) (by simp at hl ⊢; omega) (fun x hx => h1 x (by simp [hx]))
    simp only [storeCells, Sem.run_bind, hst, Result.andThen_ok, ih, setRow_setRow]
    congr 3
    have e := list_seg_step cur.toList (o + i) v rest (by simp at hl ⊢; omega)
    simpa [Array.toList_setIfInBounds, Nat.add_assoc] using e

theorem own_done {run : Result Next} (hok : Ok X s) {el : TypeId} {rows : List AV} {cur : Array Value} {es cap : Nat} {w' : World} {fr : Nat × Nat} (hfr : FrOk cur fr) (hlies : Lies s es rows cur) (hw : w'.heap = s.w.heap.push (.cells cur el fr))
    (hrun : run = .ok (.value (.slice (some ⟨s.w.heap.size, 0, none⟩) rows.length cap)) w') (hcap : rows.length ≤ cap) (hsz : cur.size = cap * es) (hio : SameIo s.w w' := by exact ⟨rfl, rfl⟩) :
    Done X s run (.own s.H.length 0 0 none) (s.H ++ [{ rows := rows, gen := 0, ver := 0, live := true, box := false, ty := el, es := es }]) := by
  obtain ⟨s', hw', hH, hloc, hst, hok'⟩ := pushObj hok { rows := rows, gen := 0, ver := 0, live := true, box := false, ty := el, es := es } cur el (w' := w') hfr hw
    hlies.size (fun _ => ⟨rfl, cap, hsz, hcap⟩) hlies.es hlies.cell (fun _ => hlies.free) hlies.rel (hio := hio)
  refine ⟨_, _, s', by rw [hrun, hw'], .inl rfl, hH, hst, hok', ?_⟩
  have hb : s'.w.heap[s'.loc s.H.length]? = some (.cells cur el fr) := by rw [hw', hloc, hw]; simp
  have := Rel.own (s := s') s.H.length 0 0 none { rows := rows, gen := 0, ver := 0, live := true, box := false, ty := el, es := es } cur el 0 cap (by rw [hH]; simp) rfl rfl rfl (by simp [lenOfOwn]) (by simpa [lenOfOwn] using hcap) fr hfr hb
    (fun _ => ⟨by simp, by simpa using hsz.symm⟩)
  rw [hloc] at this
  simpa [ad, lenOfOwn] using this

theorem frOk_mark {cur : Array Value} {lo hi : Nat} (h : FrOk cur (lo, hi)) : FrOk cur (if lo == hi then (cur.size, cur.size + 1) else (min lo cur.size, max hi (cur.size + 1))) := by
  split
  · exact .inr (Nat.le_refl _)
  · rename_i hne
    rcases h with h | h
    · cases h
      simp at hne
    · exact .inr (by have h : cur.size ≤ lo := h; show cur.size ≤ min lo cur.size; omega)

/-- []byte over bytes of one's own: the model marks the block's end; what referred to it ahead does so no more. -/
theorem mark_own {run : Result Next} {v : Value} {id gen : Nat} {ob : Obj} {src dst el0 el : TypeId} (hok : Ok X s) (hx : Rel s (.own id gen 0 none) v) (hob : s.H[id]? = some ob) (hl : ob.live = true) (hg : ob.gen = gen) (hbox : ob.box = false)
    (hsd : src = dst) (hs : X.P.underlying src = some (.slice el0)) (hd : X.P.underlying dst = some (.slice el)) (he : X.P.underlying el = some (.int .u8))
    (hex : ∀ (cv : Value) (w' : World), (convert src dst v).run X.P s.w = .ok cv w' → run = .ok (.value cv) w') :
    Done X s run (.own id (gen + 1) 0 none) (s.H.set id { ob with gen := gen + 1, ver := ob.ver }) := by
  have hobok := hok.obj id ob hob hl
  have hit := hobok.plain hbox
  obtain ⟨cur, ty', fr0, hfr0, hblk, hsz0, hc2, hcells⟩ := hobok.block hit
  obtain ⟨lo, hi⟩ := fr0
  cases hx with
  | ownStale i g row len o a n cap ho hst =>
    rw [ho] at hob
    obtain rfl := Option.some.inj hob
    rcases hst with h | h
    · rw [hl] at h; cases h
    · omega
  | own i' g row len o2 cur2 ty2 off cap ho hl2 hg2 hbox2 hn hcap fr hfr hblk2 hoff =>
    rw [ho] at hob
    obtain rfl := Option.some.inj hob
    have hb2 := hblk2
    rw [hblk] at hb2
    simp only [Option.some.injEq, Go.Obj.cells.injEq] at hb2
    obtain ⟨rfl, rfl, _⟩ := hb2
    have hlt : s.loc id < s.w.heap.size := (Array.getElem?_eq_some_iff.1 hblk).1
    have hnew : (s.w.freeze ⟨s.loc id, cur.size, none⟩ 1).heap[s.loc id]? = some (.cells cur ty' (if lo == hi then (cur.size, cur.size + 1) else (min lo cur.size, max hi (cur.size + 1)))) := by
      simp only [World.freeze]
      rw [if_neg (by decide)]
      simp only [Array.getElem?_modify, hblk]
      simp
    obtain ⟨s', hw', hH', hloc', hst', hok'⟩ := update hok ho hl { o2 with gen := gen + 1, ver := o2.ver } (s.loc id) cur ty' (frOk_mark hfr0) (w' := s.w.freeze ⟨s.loc id, cur.size, none⟩ 1) (.inl rfl)
      (by simp [World.freeze]) (fun k _ hk => by
        simp only [World.freeze]
        rw [if_neg (by decide)]
        simp only [Array.getElem?_modify]
        rw [if_neg (fun h => (hk.resolve_right (fun h => h rfl)) h.symm)]) hnew hl (by simp [hg]) (by simp only [hg]; omega) hsz0 hc2 hobok.es hobok.cell (fun h => hobok.free h) hcells hit (hio := by simp [World.freeze, SameIo])
    have hrun : (convert src dst (.slice (some (ad (s.loc id) off)) (lenOfOwn o2 0 none) cap)).run X.P s.w = .ok (.slice (some (ad (s.loc id) off)) (lenOfOwn o2 0 none) cap) (s.w.freeze ⟨s.loc id, cur.size, none⟩ 1) := by
      subst hsd
      have hel : el0 = el := by
        have := hs.symm.trans hd
        simpa using this
      subst hel
      have hsh : s.w.shape? (s.loc id) = some (ty', cur.size) := by simp [World.shape?, hblk]
      simp [convert, run_underlying hs, run_underlying hd, run_underlying he, markStringish, ad, hsh]
    refine ⟨_, _, s', by rw [hw']; exact hex _ _ hrun, .inl rfl, hH', hst', hok', ?_⟩
    have hme : s'.H[id]? = some { o2 with gen := gen + 1, ver := o2.ver } := by
      rw [hH']; simp [(List.getElem?_eq_some_iff.1 ho).1]
    have := Rel.own (s := s') id (gen + 1) 0 none { o2 with gen := gen + 1, ver := o2.ver } cur ty' off cap hme hl rfl hbox hn hcap _ (frOk_mark hfr0) (by rw [hw', hloc']; exact hnew) hoff
    rw [hloc'] at this
    exact this

/-- The same, and none writes to it later: from here on it is a plain value. -/
theorem mark_frozen {run : Result Next} {v : Value} {id gen : Nat} {ob : Obj} {src dst el0 el : TypeId} (hok : Ok X s) (hx : Rel s (.own id gen 0 none) v) (hob : s.H[id]? = some ob) (hl : ob.live = true) (hg : ob.gen = gen) (hbox : ob.box = false)
    (hsd : src = dst) (hs : X.P.underlying src = some (.slice el0)) (hd : X.P.underlying dst = some (.slice el)) (he : X.P.underlying el = some (.int .u8))
    (hex : ∀ (cv : Value) (w' : World), (convert src dst v).run X.P s.w = .ok cv w' → run = .ok (.value cv) w') :
    Done X s run (.lst ob.es false ob.rows) (s.H.set id { ob with live := false, ver := ob.ver }) := by
  obtain ⟨nx, cv, s', hrun, hnx, hH, hst, hok', hrel⟩ := mark_own hok hx hob hl hg hbox hsd hs hd he hex
  have hid : id < s.H.length := (List.getElem?_eq_some_iff.1 hob).1
  have hme : s'.H[id]? = some { ob with gen := gen + 1, ver := ob.ver } := by rw [hH]; simp [hid]
  obtain ⟨hst2, hok2⟩ := kill hok' hme { ob with live := false, ver := ob.ver } rfl
  have hk := hok'.obj id _ hme hl
  refine ⟨nx, cv, ({ s' with H := s'.H.set id { ob with live := false, ver := ob.ver } } : St), hrun, hnx, ?_, hst.trans hst2, hok2, ?_⟩
  · show s'.H.set id _ = _
    rw [hH, List.set_set]
  cases hrel with
  | ownStale _ _ _ _ o2 a m cap ho2 hs2 =>
    exfalso
    rw [hme] at ho2
    obtain rfl := Option.some.inj ho2
    rcases hs2 with h | h
    · have h : ob.live = false := h
      rw [hl] at h; cases h
    · have h : gen + 1 < gen + 1 := h
      omega
  | own _ _ _ _ o2 cur ty off cap ho2 hl2 hg2 hbox2 hn hcap fr hfr hb hoff =>
    rw [hme] at ho2
    obtain rfl := Option.some.inj ho2
    obtain ⟨cur0, ty0, fr0, hfr0, hblk0, hsz0, hc0, hcells0⟩ := hk.block (hk.plain hbox)
    rw [hb] at hblk0
    simp only [Option.some.injEq, Go.Obj.cells.injEq] at hblk0
    obtain ⟨rfl, rfl, _⟩ := hblk0
    refine .lst ob.es ob.rows (s'.loc id) off cap (fun a c => cur[a * ob.es + c]?.getD undef) hcap (fun _ => ⟨(Array.getElem?_eq_some_iff.1 hb).1, ?_⟩) hk.es (hk.free hbox) hk.cell ?_ ?_
    · rintro (⟨j, oj, hj, hlj, hbj⟩ | hm)
      · have hji : j ≠ id := by
          rintro rfl
          have hj : (s'.H.set j { ob with live := false, ver := ob.ver })[j]? = some oj := hj
          have hjl : j < s'.H.length := by rw [hH]; simpa using hid
          simp [hjl] at hj
          subst hj
          cases hlj
        have hj' : s'.H[j]? = some oj := by
          have hj : (s'.H.set id { ob with live := false, ver := ob.ver })[j]? = some oj := hj
          rwa [List.getElem?_set_ne (Ne.symm hji)] at hj
        exact hji (hok'.inj j id oj _ hj' hme hlj hl hbj)
      · exact hk.mask hm
    · intro a c ha hc
      have hcap0 : cap ≠ 0 := by
        have : ob.rows.length ≤ cap := hcap
        omega
      obtain ⟨h1, h2⟩ := hoff hcap0
      have hy := List.getElem?_eq_getElem ha
      have hyl := hk.es _ (List.mem_of_getElem? hy)
      have hyl : (ob.rows[a]).cells.length = ob.es := hyl
      obtain ⟨u, hu, _⟩ := hcells0 a c _ ((ob.rows[a]).cells[c]'(by omega)) hy (List.getElem?_eq_getElem (by omega))
      have hoff0 : off = 0 := by rw [h1]; simp
      have hu : cur[a * ob.es + c]? = some u := hu
      subst hoff0
      simp [World.cell?, ad, hb, hu]
    · intro a c y z hy hz
      obtain ⟨u, hu, hrel⟩ := hcells0 a c y z hy hz
      have hu : cur[a * ob.es + c]? = some u := hu
      simp only [hu, Option.getD_some]
      exact hrel.mono hst2

theorem sound_convert {src dst : TypeId} {x : Operand} (hop : o.op = .convert src dst x) (hok : Ok X s) (hρ : ∀ x, Rel s (ρ x) (av x))
    (e : opK X g o ρ s.H (fun v h t => some (v, h, t)) = some (v, h', tg)) : Done X s ((execOp av o).run X.P s.w) v h' := by
  have hx := hρ x
  simp only [opK, hop] at e
  have hex : ∀ (cv : Value) (w' : World), (convert src dst (av x)).run X.P s.w = .ok cv w' → (execOp av o).run X.P s.w = .ok (.value cv) w' := fun cv w' h => by
    simp only [execOp, hop]
    rw [Sem.run_bind, h]
    rfl
  split at e
  · rename_i k n hpx
    rw [hpx] at hx
    obtain ⟨hv, _⟩ := hx.v_inv
    split at e
    · rename_i k1 k2 hs hd
      simp only [Option.some.injEq, Prod.mk.injEq] at e
      obtain ⟨rfl, rfl, rfl⟩ := e
      refine Done.pure hok (hex _ _ ?_) (.v _ rfl)
      simp [hv, convert, run_underlying hs, run_underlying hd, Conv.intToInt]
    · cases e
  · rename_i t hpx
    rw [hpx] at hx
    obtain ⟨hv, _⟩ := hx.v_inv
    split at e
    · rename_i hs hd
      simp only [Option.some.injEq, Prod.mk.injEq] at e
      obtain ⟨rfl, rfl, rfl⟩ := e
      refine Done.pure hok (hex _ _ ?_) (.v _ rfl)
      simp [hv, convert, run_underlying hs, run_underlying hd]
    · rename_i el hs hd
      split at e
      · rename_i he
        split at e
        · split at e
          · simp only [newK, Option.some.injEq, Prod.mk.injEq] at e
            obtain ⟨rfl, rfl, rfl⟩ := e
            have hrun := Lib.run_convert_string_bytes (P := X.P) s.w src dst el t hs hd he
            have hlen : (bytesRows t).length = t.size := by simp [bytesRows]
            have hge := grownCap_ge s.w t.size 0 el
            have hbsz : (Lib.bytesCells s.w el t).size = grownCap s.w t.size 0 el := by
              simp [Lib.bytesCells]; omega
            exact own_done hok (es := 1) (rows := bytesRows t) (cur := Lib.bytesCells s.w el t) (cap := grownCap s.w t.size 0 el) (w' := Lib.bytesWorld s.w el t)
              (fr := ((Lib.bytesCells s.w el t).size, (Lib.bytesCells s.w el t).size + 1)) (.inr (Nat.le_refl _))
              ⟨by intro r hr; obtain ⟨b, rfl⟩ := mem_bytesRows hr; rfl, by intro r hr; obtain ⟨b, rfl⟩ := mem_bytesRows hr; simp [AV.cells, isCell], by intro r hr; obtain ⟨b, rfl⟩ := mem_bytesRows hr; rfl,
                by rw [hlen, hbsz]; omega, by
                intro r c x y hx hy
                simp only [bytesRows, List.getElem?_map, Option.map_eq_some_iff] at hx
                obtain ⟨b, hb, rfl⟩ := hx
                cases c with
                | succ c => simp [AV.cells] at hy
                | zero =>
                  simp [AV.cells] at hy
                  subst hy
                  refine ⟨.int .u8 b.toNat, ?_, .v _ rfl⟩
                  have hlt : r < t.data.size := by have := (List.getElem?_eq_some_iff.1 hb).1; simpa using this
                  simp only [Lib.bytesCells, Nat.mul_one, Nat.add_zero]
                  rw [Array.getElem?_append_left (by simpa using hlt)]
                  simp only [Array.getElem?_map]
                  rw [Array.getElem?_toList] at hb
                  rw [hb]; rfl⟩ (by
              apply Array.ext_getElem?
              intro j
              rcases Nat.lt_trichotomy j s.w.heap.size with hj | hj | hj
              · rw [Lib.bytesWorld_at_old _ _ _ _ hj, Array.getElem?_push_lt hj, Array.getElem?_eq_getElem hj]
              · subst hj; rw [Lib.bytesWorld_at_new]; simp
              · rw [Array.getElem?_eq_none (by rw [Lib.bytesWorld_size]; omega), Array.getElem?_eq_none (by simp; omega)])
              (by rw [hlen]; exact hex _ _ (by rw [hv, hrun])) (by rw [hlen]; exact hge) (by rw [hbsz, Nat.mul_one])
          · simp only [Option.some.injEq, Prod.mk.injEq] at e
            obtain ⟨rfl, rfl, rfl⟩ := e
            have hrun := Lib.run_convert_string_bytes (P := X.P) s.w src dst el t hs hd he
            obtain ⟨s', hw, hH, hst, hok', hrel⟩ := push_lst hok (es := 1) (rows := bytesRows t) (cur := Lib.bytesCells s.w el t) (ty := el)
              (fr := ((Lib.bytesCells s.w el t).size, (Lib.bytesCells s.w el t).size + 1)) (w' := Lib.bytesWorld s.w el t) (cap := grownCap s.w t.size 0 el) (by
                apply Array.ext_getElem?
                intro j
                rcases Nat.lt_trichotomy j s.w.heap.size with hj | hj | hj
                · rw [Lib.bytesWorld_at_old _ _ _ _ hj, Array.getElem?_push_lt hj, Array.getElem?_eq_getElem hj]
                · subst hj; rw [Lib.bytesWorld_at_new]; simp
                · rw [Array.getElem?_eq_none (by rw [Lib.bytesWorld_size]; omega), Array.getElem?_eq_none (by simp; omega)])
              (by intro r hr; obtain ⟨b, rfl⟩ := mem_bytesRows hr; rfl) (by intro r hr; obtain ⟨b, rfl⟩ := mem_bytesRows hr; simp [AV.cells, isCell])
              (by intro r hr; obtain ⟨b, rfl⟩ := mem_bytesRows hr; rfl) (by
                have := grownCap_ge s.w t.size 0 el
                simpa [bytesRows] using this)
              (by
                intro r c x y hx hy
                simp only [bytesRows, List.getElem?_map, Option.map_eq_some_iff] at hx
                obtain ⟨b, hb, rfl⟩ := hx
                cases c with
                | succ c => simp [AV.cells] at hy
                | zero =>
                  simp [AV.cells] at hy
                  subst hy
                  refine ⟨.int .u8 b.toNat, ?_, .v _ rfl⟩
                  have hlt : r < t.data.size := by have := (List.getElem?_eq_some_iff.1 hb).1; simpa using this
                  simp only [Lib.bytesCells, Nat.mul_one, Nat.add_zero]
                  rw [Array.getElem?_append_left (by simpa using hlt)]
                  simp only [Array.getElem?_map]
                  rw [Array.getElem?_toList] at hb
                  rw [hb]; rfl)
            have hlen : (bytesRows t).length = t.size := by simp [bytesRows]
            rw [hlen] at hrel
            exact ⟨_, _, s', hex _ _ (by rw [hv, hrun, hw]), .inl rfl, hH, hst, hok', hrel⟩
        · cases e
      · cases e
    · cases e
  · rename_i hn1 hn2
    split at e
    · rename_i el hs hd
      split at e
      · rename_i he
        obtain ⟨rows, e1, hes, hcell, hfree, hmem⟩ := rowsK_slice hok e hx (fun t ht => hn2 t ht)
        obtain ⟨l, hl, e2⟩ := bytesK_some e1
        simp only [Option.some.injEq, Prod.mk.injEq] at e2
        obtain ⟨rfl, rfl, rfl⟩ := e2
        refine Done.pure hok (hex _ _ ?_) (.v _ rfl)
        obtain ⟨ns, hns, hln⟩ := rowsBytes_some hl
        rcases hmem with ⟨hr, hcv⟩ | ⟨hr, a, cap, hcv⟩ | ⟨b, off, cap, hcv, hc⟩
        · rw [hcv, run_convert_bytes_string _ _ _ _ _ _ _ hs he hd]
          have : ns = [] := by rw [hr] at hns; simpa using hns.symm
          rw [hln, this]
          rfl
        · rw [hcv, run_convert_bytes_string _ _ _ _ _ _ _ hs he hd]
          have : ns = [] := by rw [hr] at hns; simpa using hns.symm
          rw [hln, this]
          rfl
        · rw [hcv, run_convert_bytes_string _ _ _ _ _ _ _ hs he hd, run_bytesToString (P := X.P) s.w _ _ _ ns, foldl_push, hln]
          · simp
          · rw [run_loadCells s.w (ad b off) rows.length (fun j => .int .u8 (ns.getD j 0))]
            · congr 1
              rw [hns, List.length_map]
              congr 1
              apply List.ext_getElem?
              intro j
              by_cases hj : j < ns.length <;> simp [hj, List.getD]
            · intro j hj
              have hj' : j < ns.length := by rw [hns] at hj; simpa using hj
              obtain ⟨u, hu, hrel⟩ := hc j 0 (.v (.int .u8 ns[j])) (.v (.int .u8 ns[j])) (by rw [hns]; simp [hj']) rfl
              obtain ⟨rfl, _⟩ := hrel.v_inv
              rw [ad_add]
              simpa [List.getD, hj'] using hu
      · cases e
    · rename_i el0 el hs hd
      split at e
      · rename_i hsd he
        split at e
        · rename_i id gen hpx
          rw [hpx] at hx
          obtain ⟨ob, hob, hl, hg, e1⟩ := objK_some e
          obtain ⟨hbox, e2⟩ := br_yes e1
          split at e2
          · simp only [setK, Option.some.injEq, Prod.mk.injEq] at e2
            obtain ⟨rfl, rfl, rfl⟩ := e2
            refine mark_own hok hx hob hl hg (by simpa using hbox) (src := src) (dst := dst) (Nat.eq_of_beq_eq_true hsd) hs hd he hex
          · simp only [setK, Option.some.injEq, Prod.mk.injEq] at e2
            obtain ⟨rfl, rfl, rfl⟩ := e2
            exact mark_frozen hok hx hob hl hg (by simpa using hbox) (src := src) (dst := dst) (Nat.eq_of_beq_eq_true hsd) hs hd he hex
        · cases e
      · cases e
    · cases e

theorem sound_buildSlice {t : TypeId} {n : Nat} {parts : Array (Nat × Operand)} (hop : o.op = .buildSlice t n parts) (hok : Ok X s) (hρ : ∀ x, Rel s (ρ x) (av x))
    (e : opK X g o ρ s.H (fun v h t => some (v, h, t)) = some (v, h', tg)) : Done X s ((execOp av o).run X.P s.w) v h' := by
  have hrun : (execOp av o).run X.P s.w = (do pure (.value (← Instr.buildSlice t n (parts.map fun (i, x) => (i, av x)))) : Sem Next).run X.P s.w := by simp only [execOp, hop]
  simp only [opK, hop] at e
  split at e
  · rename_i el hel
    have hu := elemT_some hel
    split at e
    · rename_i z hz
      obtain ⟨zv, hzr, hzrel, hzc, hzf⟩ := zeroOf_rel (s := s) hz
      split at e
      · rename_i rows hrows
        split at hrows
        · rename_i hchk
          simp only [Bool.and_eq_true] at hchk
          obtain ⟨_, hlen, _⟩ := fits_cells hchk.1.1 hzrel
          have hpos := not_beq hchk.1.2
          have hle : n * X.P.cellsOf el ≤ 16777216 := Nat.le_of_ble_eq_true hchk.2
          have hsz := run_sizeOf_pos (P := X.P) hpos s.w
          have hl0 := Lies.replicate hzc hzf (by rw [hlen]; exact hpos) n n (Nat.le_refl n)
          rw [hlen] at hl0
          obtain ⟨vout, h1, h2, h3, h4⟩ := fillRows_run (s := s) (vparts := (parts.map fun (i, x) => (i, av x)).toList) hrows (by simp) (parts_rel hρ) hl0
          have hn : rows.length = n := by rw [h3]; simp
          have hvs : vout.size = n * X.P.cellsOf el := by rw [h2]; simp
          have hrun' : (Instr.buildSlice t n (parts.map fun (i, x) => (i, av x))).run X.P s.w = .ok (.slice (some ⟨s.w.heap.size, 0, none⟩) n n) { s.w with heap := s.w.heap.push (.cells vout el) } := by
            simp only [Instr.buildSlice, Sem.run_bind, run_underlying hu, Result.andThen_ok, hsz]
            have e24 : ¬ (n * X.P.cellsOf el > 2 ^ 24) := by simp; omega
            by_cases h0 : n * X.P.cellsOf el = 0
            · have hr0 : Array.range (n * X.P.cellsOf el) = #[] := by rw [h0]; rfl
              rw [hr0] at h1
              simp only [Array.map_empty] at h1
              simp only [e24, if_false, h0, if_true, Sem.run_pure, Sem.run_bind, Result.andThen_ok, Array.range_zero', Array.map_empty, h1, run_newRow]
              simp [run_newRow]
            · simp only [e24, if_false, h0, Sem.run_pure, Sem.run_bind, Result.andThen_ok, hzr, h1, run_newRow]
          split at e
          · split at e
            · simp only [newK, Option.some.injEq, Prod.mk.injEq] at e
              obtain ⟨rfl, rfl, rfl⟩ := e
              exact own_done hok .zero h4 rfl (by rw [hn]; exact run_op hrun hrun') (Nat.le_refl _) (by rw [hvs, hn])
            · simp only [Option.some.injEq, Prod.mk.injEq] at e
              obtain ⟨rfl, rfl, rfl⟩ := e
              obtain ⟨s', hw, hH, hst, hok', hrel⟩ := push_lst hok (es := X.P.cellsOf el) (rows := rows) (cur := vout) (ty := el) (fr := (0, 0)) (w' := { s.w with heap := s.w.heap.push (.cells vout el) }) rfl
                h4.es h4.cell h4.free (Nat.le_refl _) h4.rel
              refine ⟨_, _, s', by rw [hw]; exact run_op hrun hrun', .inl rfl, hH, hst, hok', ?_⟩
              rw [hn] at hrel
              exact hrel
          · cases e
        · cases hrows
      · cases e
    · cases e
  · cases e
end
end Go.Ab
