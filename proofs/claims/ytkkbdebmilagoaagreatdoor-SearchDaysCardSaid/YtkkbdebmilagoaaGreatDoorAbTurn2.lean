/- What the abstract machine does to its own state between operations: freezing, letting go. -/
import Derived.Test.YtkkbdebmilagoaaGreatDoorAbTurn
set_option linter.unusedSimpArgs false
set_option linter.unusedVariables false
namespace Go.Ab
open Go

section
variable {X : Ctx}

theorem subRows_get {o : Obj} {row : Nat} {len : Option Nat} {i : Nat} {x : AV} (hx : (subRows o.rows row len)[i]? = some x) : o.rows[row + i]? = some x := by
  unfold subRows at hx
  cases len with
  | none =>
    cases row with
    | zero => simpa using hx
    | succ r => simpa [List.getElem?_drop] using hx
  | some n =>
    cases row with
    | zero =>
      simp only [List.getElem?_take] at hx
      split at hx
      · simpa using hx
      · cases hx
    | succ r =>
      simp only [List.getElem?_take, List.getElem?_drop] at hx
      split at hx
      · exact hx
      · cases hx

theorem subRows_length {o : Obj} {row : Nat} {len : Option Nat} (hn : row + lenOfOwn o row len ≤ o.rows.length) : (subRows o.rows row len).length = lenOfOwn o row len := by
  unfold subRows
  unfold lenOfOwn at hn ⊢
  cases len with
  | none => cases row <;> simp
  | some n => cases row <;> simp at hn ⊢ <;> omega

/-- One object is made immutable, its boxes' references gone. -/
theorem freeze_ok {s0 s : St} (hok : Ok X s) (hst : Step s0 s) {e : Env} {t : Array Value} (hr : RelEnv s e t) {i : Nat} {o : Obj} (ho : s.H[i]? = some o) (hl : o.live = true) (hit : o.it = none) (hfree : o.box = true → refFrees o.rows = true)
    {F : Nat → Nat → Option Nat → AV} {Q : Nat → Nat → Nat → AV}
    (hF : F = fun g r l => match Nat.beq g o.gen && !o.box with | true => .lst o.es false (subRows o.rows r l) | false => .junk)
    (hQ : Q = fun g r k => match Nat.beq g o.gen && o.box with | true => (match o.rows[r]? with | some x => .pl x k | none => .junk) | false => .junk) :
    ∃ s' : St, s'.w = s.w ∧ s'.H = setObj (remapAll i F Q e s.H).2 i (fun o => { o with live := false }) ∧ Step s0 s' ∧ Ok X s' ∧ RelEnv s' (remapAll i F Q e s.H).1 t := by
  have hFc : ∀ g r l, isCell (F g r l) = true := by intro g r l; rw [hF]; simp only []; split <;> rfl
  have hQc : ∀ g r k, isCell (Q g r k) = true := by
    intro g r k; rw [hQ]; simp only []; split
    · split <;> rfl
    · rfl
  have hkO := hok.obj i o ho hl
  let o1 : Obj := remapObj i F Q o
  have ho1 : (remapAll i F Q e s.H).2[i]? = some o1 := by rw [remapAll_get, ho]; rfl
  have hi : i < (remapAll i F Q e s.H).2.length := (List.getElem?_eq_some_iff.1 ho1).1
  have hH : setObj (remapAll i F Q e s.H).2 i (fun o => { o with live := false }) = (remapAll i F Q e s.H).2.set i { o1 with live := false } := by
    rw [setObj_eq, ho1]
  rw [hH]
  let s' : St := { w := s.w, H := (remapAll i F Q e s.H).2.set i { o1 with live := false }, loc := s.loc, mask := s.mask }
  have hme : s'.H[i]? = some { o1 with live := false } := by simp only [s']; exact List.getElem?_set_self hi
  have hoth : ∀ j, j ≠ i → s'.H[j]? = (s.H[j]?).map (remapObj i F Q) := fun j hj => by
    simp only [s']
    rw [List.getElem?_set_ne (Ne.symm hj), remapAll_get]
  have hobj : ∀ (o2 : Obj), (remapObj i F Q o2).live = o2.live ∧ (remapObj i F Q o2).gen = o2.gen ∧ (remapObj i F Q o2).box = o2.box ∧ (remapObj i F Q o2).es = o2.es ∧ (remapObj i F Q o2).ty = o2.ty ∧
      (remapObj i F Q o2).rows.length = o2.rows.length ∧ ((remapObj i F Q o2).rows = match o2.box with | true => remaps i F Q o2.rows | false => o2.rows) ∧ (remapObj i F Q o2).it = o2.it := by
    intro o2
    unfold remapObj
    split <;> simp [remaps_map, *]
  have hliveBack : ∀ (j : Nat) (oj : Obj), s'.H[j]? = some oj → oj.live = true → j ≠ i ∧ ∃ o2, s.H[j]? = some o2 ∧ o2.live = true ∧ oj = remapObj i F Q o2 := by
    intro j oj hj hlj
    by_cases hji : j = i
    · subst hji
      rw [hme] at hj
      obtain rfl := Option.some.inj hj
      cases hlj
    · rw [hoth j hji] at hj
      simp only [Option.map_eq_some_iff] at hj
      obtain ⟨o2, ho2, rfl⟩ := hj
      exact ⟨hji, o2, ho2, by rw [← (hobj o2).1]; exact hlj, rfl⟩
  have hownEq : ∀ b, s'.Own b → s.Own b := by
    rintro b ⟨j, oj, hj, hlj, hb⟩
    obtain ⟨_, o2, ho2, hl2, _⟩ := hliveBack j oj hj hlj
    exact ⟨j, o2, ho2, hl2, hb⟩
  have hpriv : ∀ b, s'.Priv b → s.Priv b := fun b hb => hb.elim (fun h => .inl (hownEq b h)) .inr
  have hmine : ¬ s'.Priv (s.loc i) := by
    rintro (⟨j, oj, hj, hlj, hb⟩ | hm)
    · obtain ⟨hji, o2, ho2, hl2, _⟩ := hliveBack j oj hj hlj
      exact hji (hok.inj j i o2 o ho2 ho hl2 hl hb)
    · exact hkO.mask hm
  -- values without references
  have hfreeRel : ∀ x v, Rel s x v → refFree x = true → Rel s' x v := by
    intro x v hx hf
    have := remap_rel (s := s) (s' := s') (i := i) (f := fun _ _ _ => .junk) (q := fun _ _ _ => .junk) rfl hpriv (fun _ _ _ => rfl) (fun _ _ _ => rfl) ?_ ?_ ?_ hx
    · rwa [remap_free hf] at this
    · intro j hj o2 ho2
      refine ⟨remapObj i F Q o2, by rw [hoth j hj, ho2]; rfl, (hobj o2).1, (hobj o2).2.1, (hobj o2).2.2.1, (hobj o2).2.2.2.1, (hobj o2).2.2.2.2.2.1, rfl⟩
    · intro g r l v hv; cases hv <;> exact .junk _ rfl
    · intro g r k v hv; cases hv <;> exact .junk _ rfl
  obtain ⟨cur0, ty0, fr0, hfr0, hblk0, hsz0, hc0, hcells0⟩ := hkO.block hit
  have htr : ∀ x v, Rel s x v → Rel s' (remap i F Q x) v := by
    intro x v hx
    refine remap_rel (s := s) (s' := s') rfl hpriv hFc hQc ?_ ?_ ?_ hx
    · intro j hj o2 ho2
      refine ⟨remapObj i F Q o2, by rw [hoth j hj, ho2]; rfl, (hobj o2).1, (hobj o2).2.1, (hobj o2).2.2.1, (hobj o2).2.2.2.1, (hobj o2).2.2.2.2.2.1, rfl⟩
    · intro g r l v hv
      rw [hF]
      simp only []
      split
      · rename_i hg
        simp only [Bool.and_eq_true, Bool.not_eq_true'] at hg
        have hgen := Nat.eq_of_beq_eq_true hg.1
        cases hv with
        | own _ _ _ _ o2 cur ty off cap ho2 hl2 hg2 hbox hn hcap fr hfr hb hoff =>
          rw [ho] at ho2
          obtain rfl := Option.some.inj ho2
          rw [hblk0] at hb
          simp only [Option.some.injEq, Go.Obj.cells.injEq] at hb
          obtain ⟨rfl, rfl, _⟩ := hb
          rw [← subRows_length hn]
          have hmem : ∀ (k : Nat) (y : AV), (subRows o.rows r l)[k]? = some y → y ∈ o.rows := fun k y hy => List.mem_of_getElem? (subRows_get hy)
          refine .lst o.es (subRows o.rows r l) (s.loc i) off cap (fun a c => cur0[(r + a) * o.es + c]?.getD undef) (by rw [subRows_length hn]; exact hcap) (fun hne => ⟨hkO.lt, hmine⟩) ?_ ?_ ?_ ?_ ?_
          · intro y hy; obtain ⟨k, hk⟩ := List.getElem?_of_mem hy; exact hkO.es y (hmem k y hk)
          · intro y hy; obtain ⟨k, hk⟩ := List.getElem?_of_mem hy; exact hkO.free hg.2 y (hmem k y hk)
          · intro y hy; obtain ⟨k, hk⟩ := List.getElem?_of_mem hy; exact hkO.cell y (hmem k y hk)
          · intro a c ha hc
            have hcne : cap ≠ 0 := by rw [subRows_length hn] at ha; omega
            obtain ⟨h1, h2⟩ := hoff hcne
            have hy := List.getElem?_eq_getElem ha
            have hy2 := subRows_get hy
            have hyl := hkO.es _ (List.mem_of_getElem? hy2)
            obtain ⟨u, hu, _⟩ := hcells0 (r + a) c _ ((subRows o.rows r l)[a].cells[c]'(by omega)) hy2 (List.getElem?_eq_getElem (by omega))
            have : off + a * o.es + c = (r + a) * o.es + c := by rw [h1, Nat.add_mul]
            rw [this]
            simp [World.cell?, ad, s', hblk0, hu]
          · intro a c y z hy hz
            obtain ⟨u, hu, hrel⟩ := hcells0 (r + a) c y z (subRows_get hy) hz
            simp only [hu, Option.getD_some]
            exact hfreeRel z u hrel (cells_free (hkO.free hg.2 y (hmem a y hy)) hz)
        | ownStale _ _ _ _ o2 a m cap ho2 hs =>
          exfalso
          rw [ho] at ho2
          obtain rfl := Option.some.inj ho2
          rcases hs with h | h
          · rw [hl] at h; cases h
          · omega
      · cases hv with
        | own => exact .junk _ rfl
        | ownStale => exact .junk _ rfl
    · intro g r k v hv
      rw [hQ]
      simp only []
      split
      · rename_i hg
        simp only [Bool.and_eq_true] at hg
        have hgen := Nat.eq_of_beq_eq_true hg.1
        cases hv with
        | ptr _ _ _ _ o2 ho2 hl2 hg2 hrow =>
          rw [ho] at ho2
          obtain rfl := Option.some.inj ho2
          split
          · rename_i x hx
            have hxf := refFrees_mem (hfree hg.2) x (List.mem_of_getElem? hx)
            refine .pl x k (s.loc i) (r * o.es) (fun c => cur0[r * o.es + c]?.getD undef) hkO.lt hmine hxf (hkO.cell x (List.mem_of_getElem? hx)) ?_ ?_
            · intro c hc
              obtain ⟨u, hu, _⟩ := hcells0 r c x x.cells[c] hx (List.getElem?_eq_getElem hc)
              simp [World.cell?, ad, s', hblk0, hu]
            · intro c y hy
              obtain ⟨u, hu, hrel⟩ := hcells0 r c x y hx hy
              simp only [hu, Option.getD_some]
              exact hfreeRel y u hrel (cells_free hxf hy)
          · exact .junk _ rfl
        | ptrStale _ _ _ _ o2 a ho2 hs =>
          exfalso
          rw [ho] at ho2
          obtain rfl := Option.some.inj ho2
          rcases hs with h | h
          · rw [hl] at h; cases h
          · omega
      · cases hv with
        | ptr => exact .junk _ rfl
        | ptrStale => exact .junk _ rfl
  refine ⟨s', rfl, rfl, ?_, ?_, hr.remap htr⟩
  · refine ⟨hst.io, hst.mask, hst.size, hst.keep, fun b hb hno h => hst.priv b hb hno (hownEq b h), fun j oj hj => ?_⟩
    obtain ⟨o2, ho2, a1, a2, a3⟩ := hst.ids j oj hj
    by_cases hji : j = i
    · subst hji
      exact ⟨_, hme, fun _ => rfl, fun h => (by cases h), fun h => (by cases h)⟩
    · refine ⟨remapObj i F Q o2, by rw [hoth j hji, ho2]; rfl, fun h => by rw [(hobj o2).1]; exact a1 h, fun h => by rw [(hobj o2).2.1]; exact a2 (by rw [← (hobj o2).1]; exact h), fun h hg => ?_⟩
      obtain ⟨c1, c2, c3, c4, c5⟩ := a3 (by rw [← (hobj o2).1]; exact h) (by rw [← (hobj o2).2.1]; exact hg)
      exact ⟨c1, (hobj o2).2.2.2.2.2.1.trans c2, (hobj o2).2.2.2.1.trans c3, (hobj o2).2.2.1.trans c4, c5⟩
  · refine ⟨fun a b oa ob ha hb hla hlb he => ?_, fun j oj hj hlj => ?_, fun gg x hx => ?_, hok.maskLt⟩
    · obtain ⟨_, o2, ho2, hl2, _⟩ := hliveBack a oa ha hla
      obtain ⟨_, o3, ho3, hl3, _⟩ := hliveBack b ob hb hlb
      exact hok.inj a b o2 o3 ho2 ho3 hl2 hl3 he
    · obtain ⟨_, o2, ho2, hl2, rfl⟩ := hliveBack j oj hj hlj
      exact ObjOk.remap (s := s) (s' := s') (hok.obj j o2 ho2 hl2) rfl rfl rfl hFc hQc htr (hobj o2).2.2.2.2.2.2.1 (hobj o2).2.2.1 (hobj o2).2.2.2.1 (hobj o2).2.2.2.2.1 (hobj o2).2.2.2.2.2.2.2
    · refine (hok.glob gg x hx).here rfl fun h => ?_
      have := htr _ _ h
      simpa only [Go.Ab.remap] using this

/-- A turn of the state that keeps what is known of it. -/
def Keeps (X : Ctx) (T : Env → Heap → Env × Heap) : Prop :=
  ∀ (s0 s : St) (e : Env) (t : Array Value), Ok X s → Step s0 s → RelEnv s e t →
    ∃ s' : St, s'.w = s.w ∧ s'.H = (T e s.H).2 ∧ Step s0 s' ∧ Ok X s' ∧ RelEnv s' (T e s.H).1 t

theorem Keeps.id : Keeps X fun e h => (e, h) := fun s0 s e t hok hst hr => ⟨s, rfl, rfl, hst, hok, hr⟩

theorem Keeps.comp {T U : Env → Heap → Env × Heap} (h1 : Keeps X T) (h2 : Keeps X U) : Keeps X fun e h => U (T e h).1 (T e h).2 := by
  intro s0 s e t hok hst hr
  obtain ⟨s1, hw1, hH1, hst1, hok1, hr1⟩ := h1 s0 s e t hok hst hr
  obtain ⟨s2, hw2, hH2, hst2, hok2, hr2⟩ := h2 s0 s1 _ t hok1 hst1 hr1
  rw [hH1] at hH2 hr2
  exact ⟨s2, hw2.trans hw1, hH2, hst2, hok2, hr2⟩

theorem Keeps.fold {T : Nat → Env → Heap → Env × Heap} (h : ∀ j, Keeps X (T j)) : ∀ (l : List Nat), Keeps X fun e h => l.foldl (fun s j => T j s.1 s.2) (e, h)
  | [] => Keeps.id
  | j :: l => by
    have := Keeps.comp (h j) (Keeps.fold h l)
    intro s0 s e t hok hst hr
    exact this s0 s e t hok hst hr

theorem freezeOne_ok (i : Nat) : Keeps X (freezeOne i) := by
  intro s0 s e t hok hst hr
  unfold freezeOne
  cases ho : s.H[i]? with
  | none => exact ⟨s, rfl, rfl, hst, hok, hr⟩
  | some o =>
    simp only []
    split
    · rename_i hc
      simp only [Bool.and_eq_true, Bool.or_eq_true, Bool.not_eq_true'] at hc
      exact freeze_ok hok hst hr ho hc.1.1 (by simpa using hc.1.2) (fun hb => hc.2.resolve_left (by rw [hb]; simp)) rfl rfl
    · exact ⟨s, rfl, rfl, hst, hok, hr⟩

theorem freezeId_ok : ∀ (d i : Nat), Keeps X (freezeId d i)
  | 0, i => Keeps.id
  | d + 1, i => by
    intro s0 s e t hok hst hr
    unfold freezeId
    cases ho : s.H[i]? with
    | none => exact ⟨s, rfl, rfl, hst, hok, hr⟩
    | some o =>
      simp only []
      cases o.box with
      | true => exact Keeps.comp (Keeps.fold (fun j => freezeId_ok d j) (idsOfs o.rows)) (freezeOne_ok i) s0 s e t hok hst hr
      | false => exact freezeOne_ok i s0 s e t hok hst hr

theorem freezeIds_ok (l : List Nat) : Keeps X (freezeIds l) := Keeps.fold (fun j => freezeId_ok 4 j) l

theorem clearEnv_ok {s : St} {t : Array Value} : ∀ (l : List Tmp) {e : Env}, RelEnv s e t → RelEnv s (clearEnv l e) t
  | [], e, h => h
  | j :: l, e, h => by
    refine clearEnv_ok l ⟨by simpa using h.1, fun k x y hx hy => ?_⟩
    by_cases hk : j = k
    · subst hk
      rw [List.getElem?_set] at hx
      simp only [if_true] at hx
      split at hx
      · simp at hx; subst hx; exact .dead _
      · cases hx
    · rw [List.getElem?_set_ne hk] at hx
      exact h.2 k x y hx hy

mutual
theorem below_of_free {n : Nat} : ∀ {x : AV}, refFree x = true → refsBelow n x = true
  | .v _, _ => rfl
  | .lst _ _ _, _ => rfl
  | .own _ _ _ _, h => by simp [refFree] at h
  | .ptr _ _ _ _, h => by simp [refFree] at h
  | .pl _ _, _ => rfl
  | .fn _ a b, h => by
    simp only [refFree, Bool.and_eq_true] at h
    simp only [refsBelow, Bool.and_eq_true]
    exact ⟨belows_of_free h.1, belows_of_free h.2⟩
  | .iface _ x, h => by
    simp only [refFree] at h
    simp only [refsBelow]
    exact below_of_free h
  | .agg cs, h => by
    simp only [refFree] at h
    simp only [refsBelow]
    exact belows_of_free h
  | .tup xs, h => by
    simp only [refFree] at h
    simp only [refsBelow]
    exact belows_of_free h
  | .junk, _ => rfl
  | .dead, _ => rfl
theorem belows_of_free {n : Nat} : ∀ {xs : List AV}, refFrees xs = true → refsBelows n xs = true
  | [], _ => rfl
  | x :: xs, h => by
    simp only [refFrees, Bool.and_eq_true] at h
    simp only [refsBelows, Bool.and_eq_true]
    exact ⟨below_of_free h.1, belows_of_free h.2⟩
end

theorem belows_mem {n : Nat} : ∀ {xs : List AV}, refsBelows n xs = true → ∀ x ∈ xs, refsBelow n x = true
  | [], _, x, hx => by cases hx
  | y :: ys, h, x, hx => by
    simp only [refsBelows, Bool.and_eq_true] at h
    rcases List.mem_cons.1 hx with rfl | hx
    · exact h.1
    · exact belows_mem h.2 x hx

theorem cells_below {n : Nat} {x y : AV} {j : Nat} (h : refsBelow n x = true) (hy : x.cells[j]? = some y) : refsBelow n y = true := by
  cases x with
  | agg cs => exact belows_mem (by simp only [refsBelow] at h; exact h) _ (List.mem_of_getElem? hy)
  | _ =>
    cases j with
    | zero => simp [AV.cells] at hy; subst hy; exact h
    | succ j => simp [AV.cells] at hy

/-- Values that refer to what is kept. -/
theorem take_rel {s s' : St} {n : Nat} (hw : s'.w = s.w) (hp : ∀ b, s'.Priv b → s.Priv b) (hH : ∀ i, i < n → s'.H[i]? = s.H[i]?) (hloc : s'.loc = s.loc) {x : AV} {v : Value} (hr : Rel s x v) (hb : refsBelow n x = true) : Rel s' x v := by
  induction hr with
  | v x hx => exact .v x hx
  | nil es => exact .nil es
  | empty es a cap => exact .empty es a cap
  | lst es rows b off cap vals hcap hpriv hes hfree hcell hc _ ih =>
    refine .lst es rows b off cap vals hcap (fun hne => ⟨by rw [hw]; exact (hpriv hne).1, fun h => (hpriv hne).2 (hp _ h)⟩) hes hfree hcell (fun i j hi hj => by rw [hw]; exact hc i j hi hj) ?_
    intro i j x y hx hy
    exact ih i j x y hx hy (below_of_free (cells_free (hfree x (List.mem_of_getElem? hx)) hy))
  | own i g row len o cur ty off cap ho hl hg hbox hn hcap fr hfr hblk hoff =>
    simp only [refsBelow] at hb
    have hi : i < n := by simpa [Nat.blt_eq] using hb
    rw [← hloc]
    exact .own i g row len o cur ty off cap (by rw [hH i hi]; exact ho) hl hg hbox hn hcap fr hfr (by rw [hloc, hw]; exact hblk) hoff
  | ownStale i g row len o a m cap ho hs =>
    simp only [refsBelow] at hb
    have hi : i < n := by simpa [Nat.blt_eq] using hb
    exact .ownStale i g row len o a m cap (by rw [hH i hi]; exact ho) hs
  | ptr i g row off o ho hl hg hrow =>
    simp only [refsBelow] at hb
    have hi : i < n := by simpa [Nat.blt_eq] using hb
    rw [← hloc]
    exact .ptr i g row off o (by rw [hH i hi]; exact ho) hl hg hrow
  | ptrStale i g row off o a ho hs =>
    simp only [refsBelow] at hb
    have hi : i < n := by simpa [Nat.blt_eq] using hb
    exact .ptrStale i g row off o a (by rw [hH i hi]; exact ho) hs
  | pl row off b base vals hsz hpriv hfree hcell hc _ ih =>
    exact .pl row off b base vals (by rw [hw]; exact hsz) (fun h => hpriv (hp _ h)) hfree hcell (fun j hj => by rw [hw]; exact hc j hj) (fun j y hy => ih j y hy (below_of_free (cells_free hfree hy)))
  | fn f first cap fs cs h1 h2 _ _ ih1 ih2 =>
    simp only [refsBelow, Bool.and_eq_true] at hb
    exact .fn f first cap fs cs h1 h2 (fun j x y hx hy => ih1 j x y hx hy (belows_mem hb.1 _ (List.mem_of_getElem? hx))) (fun j x y hx hy => ih2 j x y hx hy (belows_mem hb.2 _ (List.mem_of_getElem? hx)))
  | iface t x v _ ih => exact .iface t x v (ih (by simpa [refsBelow] using hb))
  | agg cs vs h1 hcell _ ih =>
    simp only [refsBelow] at hb
    exact .agg cs vs h1 hcell (fun j x y hx hy => ih j x y hx hy (belows_mem hb _ (List.mem_of_getElem? hx)))
  | tup cs vs h1 _ ih =>
    simp only [refsBelow] at hb
    exact .tup cs vs h1 (fun j x y hx hy => ih j x y hx hy (belows_mem hb _ (List.mem_of_getElem? hx)))
  | junk v hv => exact .junk v hv
  | dead v => exact .dead v

theorem dropD_ok {s0 s : St} {e : Env} {t : Array Value} (hok : Ok X s) (hst : Step s0 s) (hr : RelEnv s e t) : ∀ (d n : Nat), s0.H.length ≤ n →
    ∃ s' : St, s'.w = s.w ∧ s'.H = dropD d n e s.H ∧ Step s0 s' ∧ Ok X s' ∧ RelEnv s' e t := by
  intro d
  induction d with
  | zero => exact fun n hn => ⟨s, rfl, rfl, hst, hok, hr⟩
  | succ d ih =>
  intro n hn
  unfold dropD
  split
  · exact ⟨s, rfl, rfl, hst, hok, hr⟩
  split
  · rename_i hc
    simp only [Bool.and_eq_true] at hc
    let s' : St := { s with H := s.H.take n }
    have hH : ∀ i, i < n → s'.H[i]? = s.H[i]? := fun i hi => by simp only [s']; rw [List.getElem?_take, if_pos hi]
    have hH' : ∀ (i : Nat) (o : Obj), s'.H[i]? = some o → s.H[i]? = some o := fun i o h => by
      simp only [s'] at h
      rw [List.getElem?_take] at h
      split at h
      · exact h
      · cases h
    have hown : ∀ b, s'.Own b → s.Own b := fun b ⟨i, o, ho, hl, hb⟩ => ⟨i, o, hH' i o ho, hl, hb⟩
    have hp : ∀ b, s'.Priv b → s.Priv b := fun b hb => hb.elim (fun h => .inl (hown b h)) .inr
    have htr : ∀ x v, Rel s x v → refsBelow n x = true → Rel s' x v := fun x v hx hb => take_rel (s := s) (s' := s') rfl hp hH rfl hx hb
    refine ⟨s', rfl, rfl, ?_, ?_, hr.1, fun j x y hx hy => htr _ _ (hr.2 j x y hx hy) (belows_mem hc.1 _ (List.mem_of_getElem? hx))⟩
    · refine ⟨hst.io, hst.mask, hst.size, hst.keep, fun b hb hno h => hst.priv b hb hno (hown b h), fun i o ho => ?_⟩
      obtain ⟨o2, ho2, a1, a2, a3⟩ := hst.ids i o ho
      have hi : i < n := Nat.lt_of_lt_of_le (List.getElem?_eq_some_iff.1 ho).1 hn
      exact ⟨o2, by rw [hH i hi]; exact ho2, a1, a2, a3⟩
    · refine ⟨fun a b oa ob ha hb => hok.inj a b oa ob (hH' a oa ha) (hH' b ob hb), fun i o ho hl => ?_, fun g x hx => (hok.glob g x hx).here rfl fun h => htr _ _ h rfl, hok.maskLt⟩
      have hk := hok.obj i o (hH' i o ho) hl
      refine ⟨fun hit => ?_, hk.es, hk.cell, hk.free, hk.mask, hk.iter⟩
      obtain ⟨cur, ty, fr, hfr, h1, h2, h3, h4⟩ := hk.block hit
      refine ⟨cur, ty, fr, hfr, h1, h2, h3, fun r c x y hx hy => ?_⟩
      obtain ⟨v, hv, hrel⟩ := h4 r c x y hx hy
      refine ⟨v, hv, htr _ _ hrel ?_⟩
      cases hb : o.box with
      | true =>
        have hall := hc.2
        unfold heapBelow at hall
        rw [List.all_eq_true] at hall
        have := hall o (List.mem_of_getElem? ho)
        rw [hb] at this
        exact cells_below (belows_mem this x (List.mem_of_getElem? hx)) hy
      | false => exact below_of_free (cells_free (hk.free hb x (List.mem_of_getElem? hx)) hy)
  · exact ih (n + 1) (by omega)
theorem dropK_ok {s0 s : St} {n : Nat} (hn : s0.H.length ≤ n) {e : Env} {t : Array Value} (hok : Ok X s) (hst : Step s0 s) (hr : RelEnv s e t) :
    ∃ s' : St, s'.w = s.w ∧ s'.H = dropK n e s.H ∧ Step s0 s' ∧ Ok X s' ∧ RelEnv s' e t := dropD_ok hok hst hr 4 n hn
end
end Go.Ab
