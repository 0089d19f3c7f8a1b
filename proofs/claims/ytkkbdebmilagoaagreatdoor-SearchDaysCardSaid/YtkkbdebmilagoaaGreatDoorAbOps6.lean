/- Each operation of the abstract machine is the model's: append, stores, lengths; all of them. -/
import Derived.Test.YtkkbdebmilagoaaGreatDoorAbOps5
set_option linter.unusedSimpArgs false
set_option linter.unusedVariables false
namespace Go.Ab
open Go

section
variable {X : Ctx} {s : St} {g : FuncId} {o : Oper} {ρ : Operand → AV} {av : Operand → Value} {v : AV} {h' : Heap} {tg : Tag}

/-- What a source of append hands over. -/
theorem rowsK_news {β : Type} {P : Program} {x : AV} {es : Nat} {c : List AV → Option β} {r : β} {cv : Value} (hok : Ok X s) (e : rowsK s.H x es c = some r) (hx : Rel s x cv) (hpos : es ≠ 0) :
    ∃ (rows : List AV) (news : Array Value), c rows = some r ∧ Lies s es rows news ∧ news.size = rows.length * es ∧ (∀ u ∈ news.toList, u.oneCell' = true) ∧
      (∀ w, (Builtin.lenOf cv).run P w = .ok rows.length w) ∧ ∀ w : World, w.heap = s.w.heap → (Builtin.firstCells es rows.length cv).run P w = .ok news w := by
  by_cases hstr : ∃ t, x = .v (.string t)
  · obtain ⟨t, rfl⟩ := hstr
    obtain ⟨rfl, _⟩ := hx.v_inv
    unfold rowsK at e
    split at e
    · cases ‹AV.v _ = _›
    · cases ‹AV.v _ = _›
    · rename_i t' ht'
      simp only [AV.v.injEq, Value.string.injEq] at ht'
      subst ht'
      split at e
      · rename_i h1
        obtain rfl := Nat.eq_of_beq_eq_true h1
        have hl : (bytesRows t).length = t.size := by simp [bytesRows]
        refine ⟨bytesRows t, t.data.map fun b => .int .u8 b.toNat, e, ⟨?_, ?_, ?_, ?_, ?_⟩, ?_, ?_, ?_, ?_⟩
        · intro r hr; obtain ⟨b, rfl⟩ := mem_bytesRows hr; rfl
        · intro r hr; obtain ⟨b, rfl⟩ := mem_bytesRows hr; simp [AV.cells, isCell]
        · intro r hr; obtain ⟨b, rfl⟩ := mem_bytesRows hr; rfl
        · simp [bytesRows]
        · intro r c x y hx hy
          simp only [bytesRows, List.getElem?_map, Option.map_eq_some_iff] at hx
          obtain ⟨b, hb, rfl⟩ := hx
          cases c with
          | succ c => simp [AV.cells] at hy
          | zero =>
            simp [AV.cells] at hy; subst hy
            refine ⟨.int .u8 b.toNat, ?_, .v _ rfl⟩
            rw [Array.getElem?_toList] at hb
            simp [hb]
        · simp [bytesRows]
        · intro u hu
          simp at hu
          obtain ⟨b, _, rfl⟩ := hu
          rfl
        · intro w; rw [hl]; rfl
        · intro w _
          rw [hl]
          simp only [Builtin.firstCells, Sem.run_pure]
          congr 2
          have : t.extract 0 t.size = t := by
            rw [extract_eq, List.take_of_length_le (by simp)]
            simp
          rw [this]
      · cases e
    · rename_i hne
      exact absurd rfl (hne t)
  · obtain ⟨rows, e1, h1, h2, h3, hmem⟩ := rowsK_slice hok e hx (fun t ht => hstr ⟨t, ht⟩)
    rcases hmem with ⟨rfl, rfl⟩ | ⟨rfl, a, cap, rfl⟩ | ⟨b, off, cap, rfl, hc⟩
    · refine ⟨[], #[], e1, ⟨by simp, by simp, by simp, by simp, by simp⟩, by simp, by simp, fun w => rfl, fun w _ => rfl⟩
    · refine ⟨[], #[], e1, ⟨by simp, by simp, by simp, by simp, by simp⟩, by simp, by simp, fun w => rfl, fun w _ => ?_⟩
      simp [Builtin.firstCells, loadCells, loadCellsFrom]
    · let f : Nat → Value := fun k => (s.w.cell? (ad b (off + k))).getD undef
      have key : ∀ i j x y, rows[i]? = some x → x.cells[j]? = some y → s.w.cell? (ad b (off + (i * es + j))) = some (f (i * es + j)) ∧ Rel s y (f (i * es + j)) := by
        intro i j x y hx hy
        obtain ⟨u, hu, hrel⟩ := hc i j x y hx hy
        rw [Nat.add_assoc] at hu
        exact ⟨by simp [f, hu], by simpa [f, hu] using hrel⟩
      have hall : ∀ k, k < rows.length * es → ∃ x y, rows[k / es]? = some x ∧ x.cells[k % es]? = some y ∧ isCell y = true := by
        intro k hk
        have hi : k / es < rows.length := (Nat.div_lt_iff_lt_mul (Nat.pos_of_ne_zero hpos)).2 hk
        have hm := h1 rows[k / es] (List.getElem_mem hi)
        have hj : k % es < rows[k / es].cells.length := by rw [hm]; exact Nat.mod_lt _ (Nat.pos_of_ne_zero hpos)
        exact ⟨_, _, List.getElem?_eq_getElem hi, List.getElem?_eq_getElem hj, h2 _ (List.getElem_mem hi) _ (List.getElem_mem hj)⟩
      have hk : ∀ k, k < rows.length * es → s.w.cell? (ad b (off + k)) = some (f k) ∧ one (f k) := by
        intro k hk
        obtain ⟨x, y, hx, hy, hcl⟩ := hall k hk
        have := key _ _ x y hx hy
        rw [Nat.div_add_mod' k es] at this
        exact ⟨this.1, this.2.one hcl⟩
      refine ⟨rows, ((List.range (rows.length * es)).map f).toArray, e1, ⟨h1, h2, h3, by simp, ?_⟩, by simp, ?_, fun w => rfl, ?_⟩
      · intro r c x y hx hy
        refine ⟨f (r * es + c), ?_, (key r c x y hx hy).2⟩
        have hr := (List.getElem?_eq_some_iff.1 hx).1
        have hcl := (List.getElem?_eq_some_iff.1 hy).1
        have hxl := h1 x (List.mem_of_getElem? hx)
        have : (r + 1) * es ≤ rows.length * es := Nat.mul_le_mul_right _ (by omega)
        rw [Nat.add_mul] at this
        have hlt : r * es + c < rows.length * es := by omega
        simp [hlt]
      · intro u hu
        simp at hu
        obtain ⟨k, hk', rfl⟩ := hu
        exact (hk k hk').2
      · intro w hw
        simp only [Builtin.firstCells]
        refine run_loadCells w (ad b off) (rows.length * es) f (fun j hj => ?_)
        rw [ad_add, cell_same (w := s.w) (w' := w) (by rw [hw])]
        exact (hk j hj).1

theorem Lies.app {es : Nat} {rows rs : List AV} {cur news cur' : Array Value} (h1 : Lies s es rows cur) (h2 : Lies s es rs news)
    (hsz : (rows ++ rs).length * es ≤ cur'.size) (ha : ∀ k, k < rows.length * es → cur'[k]? = cur[k]?) (hb : ∀ k, k < rs.length * es → cur'[rows.length * es + k]? = news[k]?) :
    Lies s es (rows ++ rs) cur' := by
  refine ⟨fun r hr => (List.mem_append.1 hr).elim (h1.es r) (h2.es r), fun r hr => (List.mem_append.1 hr).elim (h1.cell r) (h2.cell r), fun r hr => (List.mem_append.1 hr).elim (h1.free r) (h2.free r), hsz, ?_⟩
  intro r c x y hx hy
  have hcl := (List.getElem?_eq_some_iff.1 hy).1
  by_cases hr : r < rows.length
  · rw [List.getElem?_append_left hr] at hx
    have hxl := h1.es x (List.mem_of_getElem? hx)
    have : (r + 1) * es ≤ rows.length * es := Nat.mul_le_mul_right _ (by omega)
    rw [Nat.add_mul] at this
    rw [ha _ (by omega)]
    exact h1.rel r c x y hx hy
  · rw [List.getElem?_append_right (by omega)] at hx
    have hxl := h2.es x (List.mem_of_getElem? hx)
    have hr' := (List.getElem?_eq_some_iff.1 hx).1
    have : (r - rows.length + 1) * es ≤ rs.length * es := Nat.mul_le_mul_right _ (by omega)
    rw [Nat.add_mul] at this
    have e1 : r * es + c = rows.length * es + ((r - rows.length) * es + c) := by
      rw [← Nat.add_assoc, ← Nat.add_mul]; congr 2; omega
    rw [e1, hb _ (by omega)]
    exact h2.rel _ c x y hx hy

theorem grown_run {P : Program} {w : World} {t1 t2 ty e : TypeId} {i : TypeInfo} {z : Value} {d2 : TypeDesc} {base : Option Addr} {sLen sCap n : Nat} {x : Value} {olds news : Array Value}
    (ht : P.underlying t1 = some (.slice e)) (ht2 : P.underlying t2 = some d2) (hd2 : d2 = .string ∨ ∃ e', d2 = .slice e') (hi : P.info? e = some i) (hz : i.zero = some z)
    (hlen : ∀ w, (Builtin.lenOf x).run P w = .ok n w) (hnew : ∀ w', w'.heap = w.heap → (Builtin.firstCells i.size n x).run P w' = .ok news w')
    (hold : ∀ w', w'.heap = w.heap → (Builtin.firstCells i.size sLen (.slice base sLen sCap)).run P w' = .ok olds w')
    (hg : sCap < sLen + n) (h63 : ((sLen + n : Nat) : Int) ≤ 9223372036854775807) (hb : (sLen + n) * i.bytes ≤ 140737488355328) :
    (Builtin.append_ #[t1, t2] ty #[.slice base sLen sCap, x]).run P w =
      .ok (.slice (some ⟨w.heap.size, 0, none⟩) (sLen + n) (grownCap w (sLen + n) sCap e))
        (w.drew.alloc (.cells (olds ++ news ++ Builtin.zeroCells z.cells (grownCap w (sLen + n) sCap e - (sLen + n))) e)) := by
  have hn : ¬ (sLen + n ≤ sCap) := by omega
  have hfit := growslice_fits hg hb
  have h63' : ¬ (9223372036854775807 < ((sLen : Int) + (n : Int))) := by omega
  have hfit' : ¬ (281474976710656 < Builtin.nextslicecap (sLen + n) sCap * i.bytes) := by omega
  have h1 := hnew w.drew rfl
  have h2 := hold w.drew rfl
  rcases hd2 with rfl | ⟨e', rfl⟩
  all_goals
    simp [Builtin.append_, run_underlying ht, run_underlying ht2, sizeOf, typeInfo, zeroValue, hi, hz, hlen, hn, h63', hfit', Question.forced, newRow, h1, h2, grownCap]

theorem room_run {P : Program} {w : World} {t1 t2 ty e : TypeId} {i : TypeInfo} {d2 : TypeDesc} {base : Option Addr} {sLen sCap n : Nat} {x : Value} {news : Array Value} {w' : World}
    (ht : P.underlying t1 = some (.slice e)) (ht2 : P.underlying t2 = some d2) (hd2 : d2 = .string ∨ ∃ e', d2 = .slice e') (hi : P.info? e = some i)
    (hlen : ∀ w, (Builtin.lenOf x).run P w = .ok n w) (hnew : ∀ w', w'.heap = w.heap → (Builtin.firstCells i.size n x).run P w' = .ok news w')
    (hg : sLen + n ≤ sCap) (hst : ∀ a, base = some a → (storeCells (a.add (sLen * i.size)) news.toList).run P w = .ok () w') (hno : base = none → w' = w) :
    (Builtin.append_ #[t1, t2] ty #[.slice base sLen sCap, x]).run P w = .ok (.slice base (sLen + n) sCap) w' := by
  have h1 := hnew w rfl
  rcases hd2 with rfl | ⟨e', rfl⟩
  all_goals
    cases base with
    | none =>
      obtain rfl := hno rfl
      simp [Builtin.append_, run_underlying ht, run_underlying ht2, sizeOf, typeInfo, hi, hlen, hg, h1]
    | some a =>
      have := hst a rfl
      simp [Builtin.append_, run_underlying ht, run_underlying ht2, sizeOf, typeInfo, hi, hlen, hg, h1, this]

theorem builtin_run {b : Builtin} {args : Array Operand} {ts : Array TypeId} (hop : o.op = .call { callee := .builtin b, args := args, argTypes := ts }) {P : Program} (w : World) :
    ∃ consts, (execOp av o).run P w = (builtin b ts o.type consts (args.map av)).run P w := by
  simp only [execOp, hop, resolve, Sem.run_bind, Sem.run_pure, Result.andThen_ok, invoke]
  exact ⟨_, rfl⟩

theorem map_two {args : Array Operand} {a b : AV} (h : args.toList.map ρ = [a, b]) : ∃ x y, args = #[x, y] ∧ ρ x = a ∧ ρ y = b := by
  obtain ⟨l⟩ := args
  match l, h with
  | [x, y], h => simp at h; exact ⟨x, y, rfl, h.1, h.2⟩

theorem map_one {args : Array Operand} {a : AV} (h : args.toList.map ρ = [a]) : ∃ x, args = #[x] ∧ ρ x = a := by
  obtain ⟨l⟩ := args
  match l, h with
  | [x], h => simp at h; exact ⟨x, rfl, h⟩

theorem zeroCells_size (z : Array Value) (n : Nat) : (Builtin.zeroCells z n).size = n * z.size := by simp [Builtin.zeroCells]

/-- append to nothing. -/
theorem append_nil {run : Result Next} {t1 t2 ty e : TypeId} {x : Value} {rs : List AV} {news : Array Value} {d2 : TypeDesc} (hok : Ok X s) (ht : X.P.underlying t1 = some (.slice e)) (ht2 : X.P.underlying t2 = some d2)
    (hd2 : d2 = .string ∨ ∃ e', d2 = .slice e') (hrun : run = (do pure (.value (← Builtin.append_ #[t1, t2] ty #[.slice none 0 0, x])) : Sem Next).run X.P s.w)
    (hlies : Lies s (X.P.cellsOf e) rs news) (hnsz : news.size = rs.length * X.P.cellsOf e) (hone : ∀ u ∈ news.toList, u.oneCell' = true)
    (hlen : ∀ w, (Builtin.lenOf x).run X.P w = .ok rs.length w) (hnew : ∀ w' : World, w'.heap = s.w.heap → (Builtin.firstCells (X.P.cellsOf e) rs.length x).run X.P w' = .ok news w')
    {z : AV} (hz : zeroOf X.P e = some z) (hpos : X.P.cellsOf e ≠ 0) (hfz : fits X.P e z = true) :
    (rs = [] → Done X s run (.lst (X.P.cellsOf e) true []) s.H) ∧
    (rs ≠ [] → lenOk rs.length (X.P.bytesOf e) = true → lenOk rs.length 1 = true →
      Done X s run (.own s.H.length 0 0 none) (s.H ++ [{ rows := rs, gen := 0, ver := 0, live := true, box := false, ty := e, es := X.P.cellsOf e }])) := by
  obtain ⟨zv, hzr, hzrel, hzc, hzf⟩ := zeroOf_rel (s := s) hz
  obtain ⟨_, hzl, _⟩ := fits_cells hfz hzrel
  unfold zeroOf at hz
  split at hz
  · rename_i i hi
    have hsz : i.size = X.P.cellsOf e := by simp [Program.cellsOf, hi]
    have hby : i.bytes = X.P.bytesOf e := by simp [Program.bytesOf, hi]
    split at hz
    · rename_i zz hzz
      have hzz' : zz = zv := by
        have := hzr s.w
        simp [zeroValue, typeInfo, hi, hzz] at this
        exact this
      subst hzz'
      constructor
      · rintro rfl
        have hr := room_run (P := X.P) (w := s.w) (w' := s.w) (ty := ty) (base := none) (sLen := 0) (sCap := 0) (n := 0) (x := x) (news := news) ht ht2 hd2 hi hlen (by rw [hsz]; exact hnew) (by simp) (by simp) (fun _ => rfl)
        exact Done.pure hok (run_op hrun hr) (.nil _)
      · intro hne hb h1
        have hlpos : 0 < rs.length := List.length_pos_iff.2 hne
        have hb' : rs.length * X.P.bytesOf e ≤ maxBytes := Nat.le_of_ble_eq_true hb
        have h1' : rs.length * 1 ≤ maxBytes := Nat.le_of_ble_eq_true h1
        simp only [maxBytes] at hb' h1'
        have hr := grown_run (P := X.P) (w := s.w) (ty := ty) (base := none) (sLen := 0) (sCap := 0) (n := rs.length) (x := x) (news := news) (olds := #[]) ht ht2 hd2 hi hzz hlen (by rw [hsz]; exact hnew)
          (fun w' _ => by simp [Builtin.firstCells]) (by omega) (by omega) (by rw [hby, Nat.zero_add]; omega)
        simp only [Nat.zero_add, Array.empty_append] at hr
        refine own_done hok .zero (cur := news ++ Builtin.zeroCells zz.cells (grownCap s.w rs.length 0 e - rs.length)) (cap := grownCap s.w rs.length 0 e) ?_ rfl (run_op hrun hr) (grownCap_ge _ _ _ _) ?_
        · refine ⟨hlies.es, hlies.cell, hlies.free, by simp [hnsz], fun r c y u hy hu => ?_⟩
          obtain ⟨q, hq, hrel⟩ := hlies.rel r c y u hy hu
          refine ⟨q, ?_, hrel⟩
          rw [Array.getElem?_append_left (Array.getElem?_eq_some_iff.1 hq).1]
          exact hq
        · have := grownCap_ge s.w rs.length 0 e
          rw [Array.size_append, zeroCells_size, hnsz, hzc.size, hzl, ← Nat.add_mul]
          congr 1
          omega
    · cases hz
  · cases hz

/-- append to a slice of one's own. -/
theorem append_own {run : Result Next} {t1 t2 ty e : TypeId} {sv x : Value} {rs : List AV} {news : Array Value} {d2 : TypeDesc} {id gen : Nat} {len : Option Nat} {ob : Obj} (hok : Ok X s) (ht : X.P.underlying t1 = some (.slice e)) (ht2 : X.P.underlying t2 = some d2)
    (hd2 : d2 = .string ∨ ∃ e', d2 = .slice e') (hrun : run = (do pure (.value (← Builtin.append_ #[t1, t2] ty #[sv, x])) : Sem Next).run X.P s.w)
    (hs : Rel s (.own id gen 0 len) sv) (hob : s.H[id]? = some ob) (hl : ob.live = true) (hg : ob.gen = gen) (hbox : ob.box = false) (hty : ob.ty = e) (hes : ob.es = X.P.cellsOf e)
    {R : List AV} (hR : R = ob.rows.take R.length) (hlen' : lenOfOwn ob 0 len = R.length)
    (hlies : Lies s (X.P.cellsOf e) rs news) (hnsz : news.size = rs.length * X.P.cellsOf e) (hone : ∀ u ∈ news.toList, u.oneCell' = true)
    (hlen : ∀ w, (Builtin.lenOf x).run X.P w = .ok rs.length w) (hnew : ∀ w' : World, w'.heap = s.w.heap → (Builtin.firstCells (X.P.cellsOf e) rs.length x).run X.P w' = .ok news w')
    {z : AV} (hz : zeroOf X.P e = some z) (hpos : X.P.cellsOf e ≠ 0) (hfz : fits X.P e z = true)
    (hb : lenOk (R.length + rs.length) (X.P.bytesOf e) = true) (h1 : lenOk (R.length + rs.length) 1 = true) :
    Done X s run (.own id (gen + 1) 0 none) (s.H.set id { ob with rows := R ++ rs, gen := gen + 1, ver := ob.ver }) := by
  obtain ⟨zv, hzr, hzrel, hzc, hzf⟩ := zeroOf_rel (s := s) hz
  obtain ⟨_, hzl, _⟩ := fits_cells hfz hzrel
  have hobok := hok.obj id ob hob hl
  have hit := hobok.plain hbox
  obtain ⟨cur, ty', fr0, hfr0, hblk, hsz0, hc2, hcells⟩ := hobok.block hit
  obtain ⟨hty', cap0, hcs, hrc⟩ := hc2 hbox
  have hRl : R.length ≤ ob.rows.length := by
    have := congrArg List.length hR
    rw [List.length_take] at this
    omega
  have hRm : ∀ r ∈ R, r ∈ ob.rows := fun r hr => by rw [hR] at hr; exact List.mem_of_mem_take hr
  have hRg : ∀ (j : Nat) (x : AV), R[j]? = some x → ob.rows[j]? = some x := fun j x hx => by
    have hj := (List.getElem?_eq_some_iff.1 hx).1
    rw [hR, List.getElem?_take, if_pos hj] at hx
    exact hx
  have hsz2 : R.length * ob.es ≤ cur.size := Nat.le_trans (Nat.mul_le_mul_right _ hRl) hsz0
  have hrc2 : R.length ≤ cap0 := Nat.le_trans hRl hrc
  have hold : Lies s (X.P.cellsOf e) R cur := by
    rw [← hes]
    exact ⟨fun r hr => hobok.es r (hRm r hr), fun r hr => hobok.cell r (hRm r hr), fun r hr => hobok.free hbox r (hRm r hr), hsz2, fun r c x y hx hy => hcells r c x y (hRg r x hx) hy⟩
  have hb' : (R.length + rs.length) * X.P.bytesOf e ≤ maxBytes := Nat.le_of_ble_eq_true hb
  have h1' : (R.length + rs.length) * 1 ≤ maxBytes := Nat.le_of_ble_eq_true h1
  simp only [maxBytes] at hb' h1'
  unfold zeroOf at hz
  split at hz
  · rename_i i hi
    have hisz : i.size = X.P.cellsOf e := by simp [Program.cellsOf, hi]
    have hby : i.bytes = X.P.bytesOf e := by simp [Program.bytesOf, hi]
    split at hz
    · rename_i zz hzz
      have hzz' : zz = zv := by
        have := hzr s.w
        simp [zeroValue, typeInfo, hi, hzz] at this
        exact this
      subst hzz'
      cases hs with
      | ownStale i g row len o a n cap ho hst =>
        rw [ho] at hob
        obtain rfl := Option.some.inj hob
        rcases hst with h | h
        · rw [hl] at h; cases h
        · omega
      | own i' g row len o2 cur2 ty2 off cap ho hl2 hg2 hbox2 hn hcap fr hfr hblk2 hoff =>
        rw [ho] at hob
        obtain rfl := Option.some.inj hob
        rw [hblk] at hblk2
        simp only [Option.some.injEq, Go.Obj.cells.injEq] at hblk2
        obtain ⟨rfl, rfl, _⟩ := hblk2
        rw [hlen'] at hrun hcap
        -- the object turned
        have hgo : ∀ (b : Nat) (cur' : Array Value) (w' : World) (fr' : Nat × Nat), FrOk cur' fr' → SameIo s.w w' → b = s.loc id ∨ s.w.heap.size ≤ b → s.w.heap.size ≤ w'.heap.size →
            (∀ k, k < s.w.heap.size → k ≠ s.loc id ∨ b ≠ s.loc id → w'.heap[k]? = s.w.heap[k]?) → w'.heap[b]? = some (.cells cur' e fr') → Lies s (X.P.cellsOf e) (R ++ rs) cur' →
            (∃ cp, cur'.size = cp * o2.es ∧ (R ++ rs).length ≤ cp) →
            ∃ s' : St, s'.w = w' ∧ s'.H = s.H.set id { o2 with rows := R ++ rs, gen := gen + 1, ver := o2.ver } ∧ s'.loc id = b ∧ Step s s' ∧ Ok X s' := by
          intro b cur' w' fr' hfr' hio hb hsize hkeep hnewb hli hcp
          refine update hok ho hl { o2 with rows := R ++ rs, gen := gen + 1, ver := o2.ver } b cur' e hfr' hb hsize hkeep hnewb hl (by simp [hg]) (by simp only [hg]; omega) ?_ ?_ ?_ hli.cell (fun _ => hli.free) ?_ hit hio
          · simp only [hes]; exact hli.size
          · intro _; exact ⟨hty.symm, hcp⟩
          · simp only [hes]; exact hli.es
          · simp only [hes]; exact hli.rel
        by_cases hroom : R.length + rs.length ≤ cap
        · by_cases hc0 : cap = 0
          · -- nothing onto nothing
            have hr0 : rs = [] := List.eq_nil_of_length_eq_zero (by omega)
            have ho0 : R = [] := List.eq_nil_of_length_eq_zero (by omega)
            subst hr0
            have hn0 : news = #[] := by apply Array.eq_empty_of_size_eq_zero; simpa using hnsz
            obtain ⟨s', hw', hH', hloc', hst', hok'⟩ := hgo (s.loc id) cur s.w fr0 hfr0 ⟨rfl, rfl⟩ (.inl rfl) (Nat.le_refl _) (fun _ _ _ => rfl) (by rw [← hty, ← hty']; exact hblk) (by simpa using hold) ⟨cap0, hcs, by simpa using hrc2⟩
            have hr := room_run (P := X.P) (w := s.w) (w' := s.w) (ty := ty) (base := some (ad (s.loc id) off)) (sLen := R.length) (sCap := cap) (n := 0) (x := x) (news := news) ht ht2 hd2 hi hlen (by rw [hisz]; exact hnew) (by simpa using hroom)
              (fun a _ => by rw [hn0]; rfl) (by simp)
            refine ⟨_, _, s', by rw [hw']; exact run_op hrun hr, .inl rfl, hH', hst', hok', ?_⟩
            have hblk' : s'.w.heap[s'.loc id]? = some (.cells cur e fr0) := by rw [hw', hloc', ← hty, ← hty']; exact hblk
            have hme : s'.H[id]? = some { o2 with rows := R ++ [], gen := gen + 1, ver := o2.ver } := by
              rw [hH']; simp [(List.getElem?_eq_some_iff.1 ho).1]
            have := Rel.own (s := s') id (gen + 1) 0 none { o2 with rows := R ++ [], gen := gen + 1, ver := o2.ver } cur e off cap hme hl rfl hbox (by simp [lenOfOwn]) (by simp [lenOfOwn, ho0]) fr0 hfr0 hblk' (fun h => absurd hc0 h)
            rw [hloc'] at this
            simpa [lenOfOwn, ad] using this
          · obtain ⟨ho1, ho2⟩ := hoff hc0
            simp only [Nat.zero_mul] at ho1
            simp only [Nat.zero_add] at ho2
            subst ho1
            have hfit : R.length * X.P.cellsOf e + news.toList.length ≤ cur.size := by
              rw [show news.toList.length = news.size from Array.length_toList, hnsz, ← Nat.add_mul, ← ho2, hes]
              exact Nat.mul_le_mul_right _ hroom
            have hstore := run_storeCells_end X.P (s.loc id) (R.length * X.P.cellsOf e) ty' fr0 news.toList 0 cur s.w hfr0 hblk (by simpa using hfit) hone
            simp only [Nat.add_zero] at hstore
            generalize hcur' : (cur.toList.take (R.length * X.P.cellsOf e) ++ news.toList ++ cur.toList.drop (R.length * X.P.cellsOf e + news.toList.length)).toArray = cur' at hstore
            have hcsz : cur'.size = cur.size := by
              rw [← hcur']
              simp only [List.size_toArray, List.length_append, List.length_take, List.length_drop, Array.length_toList] at hfit ⊢
              omega
            have hget1 : ∀ k, k < R.length * X.P.cellsOf e → cur'[k]? = cur[k]? := by
              intro k hk
              rw [← hcur']
              simp only [List.getElem?_toArray, List.append_assoc]
              rw [List.getElem?_append_left (by simp; omega), List.getElem?_take, if_pos hk, Array.getElem?_toList]
            have hget2 : ∀ k, k < rs.length * X.P.cellsOf e → cur'[R.length * X.P.cellsOf e + k]? = news[k]? := by
              intro k hk
              rw [← hcur']
              simp only [List.getElem?_toArray, List.append_assoc]
              have hlt : (cur.toList.take (R.length * X.P.cellsOf e)).length = R.length * X.P.cellsOf e := by simp; omega
              rw [List.getElem?_append_right (by omega), hlt, List.getElem?_append_left (by simp [hnsz]; omega), Array.getElem?_toList]
              congr 1
              omega
            have hli : Lies s (X.P.cellsOf e) (R ++ rs) cur' := Lies.app hold hlies (by rw [hcsz, List.length_append, Nat.add_mul, ← hnsz]; simpa using hfit) hget1 hget2
            obtain ⟨s', hw', hH', hloc', hst', hok'⟩ := hgo (s.loc id) cur' (s.w.setRow (s.loc id) cur') fr0 (hfr0.size hcsz) ⟨rfl, rfl⟩ (.inl rfl) (by simp) (fun k _ hk => setRow_other _ _ _ _ (hk.resolve_right (fun h => h rfl))) (by rw [← hty, ← hty']; exact setRow_heap _ _ _ _ _ _ hblk) hli
              ⟨cap, by rw [hcsz, ho2], by simpa using hroom⟩
            have hr := room_run (P := X.P) (w := s.w) (w' := s.w.setRow (s.loc id) cur') (ty := ty) (base := some (ad (s.loc id) 0)) (sLen := R.length) (sCap := cap) (n := rs.length) (x := x) (news := news) ht ht2 hd2 hi hlen (by rw [hisz]; exact hnew) hroom
              (fun a ha => by
                simp only [Option.some.injEq] at ha
                subst ha
                rw [hisz, ad_add, Nat.zero_add]
                exact hstore) (by simp)
            refine ⟨_, _, s', by rw [hw']; exact run_op hrun hr, .inl rfl, hH', hst', hok', ?_⟩
            have hblk' : s'.w.heap[s'.loc id]? = some (.cells cur' e fr0) := by rw [hw', hloc', ← hty, ← hty']; exact setRow_heap _ _ _ _ _ _ hblk
            have hme : s'.H[id]? = some { o2 with rows := R ++ rs, gen := gen + 1, ver := o2.ver } := by
              rw [hH']; simp [(List.getElem?_eq_some_iff.1 ho).1]
            have := Rel.own (s := s') id (gen + 1) 0 none { o2 with rows := R ++ rs, gen := gen + 1, ver := o2.ver } cur' e 0 cap hme hl rfl hbox (by simp [lenOfOwn]) (by simpa [lenOfOwn] using hroom) fr0 (hfr0.size hcsz) hblk'
              (fun _ => ⟨by simp, by rw [hcsz, ← ho2]; simp⟩)
            rw [hloc'] at this
            simpa [lenOfOwn, ad] using this
        · -- a new array
          have holdrun : ∀ w' : World, w'.heap = s.w.heap → (Builtin.firstCells i.size R.length (.slice (some (ad (s.loc id) off)) R.length cap)).run X.P w' = .ok (cur.extract 0 (R.length * X.P.cellsOf e)) w' := by
            intro w' hw'
            simp only [Builtin.firstCells, hisz]
            by_cases hc0 : cap = 0
            · have ho0 : R.length = 0 := by omega
              rw [ho0]
              simp [loadCells, loadCellsFrom]
            · obtain ⟨ho1, ho2⟩ := hoff hc0
              simp only [Nat.zero_mul] at ho1
              subst ho1
              rw [run_loadCells w' (ad (s.loc id) 0) (R.length * X.P.cellsOf e) (fun j => cur[j]?.getD undef)]
              · congr 1
                apply Array.ext_getElem?
                intro j
                have hle : R.length * X.P.cellsOf e ≤ cur.size := by rw [← hes]; exact hsz2
                by_cases hj : j < R.length * X.P.cellsOf e
                · have : j < cur.size := by omega
                  simp [hj, this, Nat.min_eq_left hle]
                · rw [Array.getElem?_eq_none (by simp; omega), Array.getElem?_eq_none (by simp; omega)]
              · intro j hj
                have hle : R.length * X.P.cellsOf e ≤ cur.size := by rw [← hes]; exact hsz2
                have hjc : j < cur.size := by omega
                rw [ad_add, cell_same (w := s.w) (w' := w') (by rw [hw'])]
                simp [World.cell?, ad, hblk, hjc]
          have hr := grown_run (P := X.P) (w := s.w) (ty := ty) (base := some (ad (s.loc id) off)) (sLen := R.length) (sCap := cap) (n := rs.length) (x := x) (news := news) (olds := cur.extract 0 (R.length * X.P.cellsOf e)) ht ht2 hd2 hi hzz hlen (by rw [hisz]; exact hnew)
            holdrun (by omega) (by omega) (by rw [hby]; omega)
          have hle : R.length * X.P.cellsOf e ≤ cur.size := by rw [← hes]; exact hsz2
          have hge := grownCap_ge s.w (R.length + rs.length) cap e
          generalize hcur' : cur.extract 0 (R.length * X.P.cellsOf e) ++ news ++ Builtin.zeroCells zz.cells (grownCap s.w (R.length + rs.length) cap e - (R.length + rs.length)) = cur' at hr
          have hosz : (cur.extract 0 (R.length * X.P.cellsOf e)).size = R.length * X.P.cellsOf e := by simp; omega
          have hcsz : cur'.size = grownCap s.w (R.length + rs.length) cap e * X.P.cellsOf e := by
            rw [← hcur', Array.size_append, Array.size_append, zeroCells_size, hnsz, hzc.size, hzl, hosz, ← Nat.add_mul, ← Nat.add_mul]
            congr 1
            omega
          have hget1 : ∀ k, k < R.length * X.P.cellsOf e → cur'[k]? = cur[k]? := by
            intro k hk
            rw [← hcur', Array.append_assoc, Array.getElem?_append_left (by omega), Array.getElem?_extract]
            simp [hk]
            omega
          have hget2 : ∀ k, k < rs.length * X.P.cellsOf e → cur'[R.length * X.P.cellsOf e + k]? = news[k]? := by
            intro k hk
            rw [← hcur', Array.append_assoc, Array.getElem?_append_right (by omega), hosz, Array.getElem?_append_left (by omega)]
            congr 1
            omega
          have hli : Lies s (X.P.cellsOf e) (R ++ rs) cur' := Lies.app hold hlies (by rw [hcsz, List.length_append]; exact Nat.mul_le_mul_right _ hge) hget1 hget2
          have hlt : s.loc id < s.w.heap.size := hobok.lt
          have hwb : (s.w.drew.alloc (.cells cur' e)).heap[s.w.heap.size]? = some (.cells cur' e (0, 0)) := heap_alloc_new s.w.drew _
          obtain ⟨s', hw', hH', hloc', hst', hok'⟩ := hgo s.w.heap.size cur' (s.w.drew.alloc (.cells cur' e)) (0, 0) .zero ⟨rfl, rfl⟩ (.inr (Nat.le_refl _)) (by show s.w.heap.size ≤ (s.w.heap.push _).size; simp) (fun k hk _ => heap_alloc_old s.w.drew _ k hk) hwb hli
            ⟨_, by rw [hcsz, hes], by simpa using hge⟩
          refine ⟨_, _, s', by rw [hw']; exact run_op hrun hr, .inl rfl, hH', hst', hok', ?_⟩
          have hblk' : s'.w.heap[s'.loc id]? = some (.cells cur' e (0, 0)) := by rw [hw', hloc']; exact hwb
          have hme : s'.H[id]? = some { o2 with rows := R ++ rs, gen := gen + 1, ver := o2.ver } := by
            rw [hH']; simp [(List.getElem?_eq_some_iff.1 ho).1]
          have := Rel.own (s := s') id (gen + 1) 0 none { o2 with rows := R ++ rs, gen := gen + 1, ver := o2.ver } cur' e 0 (grownCap s.w (R.length + rs.length) cap e) hme hl rfl hbox (by simp [lenOfOwn]) (by simpa [lenOfOwn] using hge) (0, 0) .zero hblk'
            (fun _ => ⟨by simp, by rw [hcsz, hes]; simp⟩)
          rw [hloc'] at this
          simpa [lenOfOwn, ad] using this
    · cases hz
  · cases hz
end
end Go.Ab
