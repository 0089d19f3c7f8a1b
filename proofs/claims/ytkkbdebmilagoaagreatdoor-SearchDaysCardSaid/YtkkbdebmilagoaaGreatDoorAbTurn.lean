/- What the abstract machine does to its own state between operations. -/
import Derived.Test.YtkkbdebmilagoaaGreatDoorAbStep
set_option linter.unusedSimpArgs false
set_option linter.unusedVariables false
namespace Go.Ab
open Go

theorem setObj_eq : ∀ (h : Heap) (i : Nat) (f : Obj → Obj), setObj h i f = match h[i]? with | some o => h.set i (f o) | none => h
  | [], i, f => by cases i <;> rfl
  | o :: h, 0, f => rfl
  | o :: h, i + 1, f => by
    simp only [setObj, setObj_eq h i f, List.getElem?_cons_succ]
    cases h[i]? <;> rfl

mutual
theorem remap_free {i : Nat} {f : Nat → Nat → Option Nat → AV} {q : Nat → Nat → Nat → AV} : ∀ {x : AV}, refFree x = true → remap i f q x = x
  | .v _, _ => by simp [remap]
  | .lst _ _ _, _ => by simp [remap]
  | .own _ _ _ _, h => by simp [refFree] at h
  | .ptr _ _ _ _, h => by simp [refFree] at h
  | .pl _ _, _ => by simp [remap]
  | .fn _ a b, h => by
    simp only [refFree, Bool.and_eq_true] at h
    simp [remap, remaps_free h.1, remaps_free h.2]
  | .iface _ x, h => by
    simp only [refFree] at h
    simp [remap, remap_free h]
  | .agg cs, h => by
    simp only [refFree] at h
    simp [remap, remaps_free h]
  | .tup xs, h => by
    simp only [refFree] at h
    simp [remap, remaps_free h]
  | .junk, _ => by simp [remap]
  | .dead, _ => by simp [remap]
theorem remaps_free {i : Nat} {f : Nat → Nat → Option Nat → AV} {q : Nat → Nat → Nat → AV} : ∀ {xs : List AV}, refFrees xs = true → remaps i f q xs = xs
  | [], _ => rfl
  | x :: xs, h => by
    simp only [refFrees, Bool.and_eq_true] at h
    simp [remaps, remap_free h.1, remaps_free h.2]
end

theorem remaps_map {i : Nat} {f : Nat → Nat → Option Nat → AV} {q : Nat → Nat → Nat → AV} : ∀ (xs : List AV), remaps i f q xs = xs.map (remap i f q)
  | [] => rfl
  | x :: xs => by simp [remaps, remaps_map xs]

theorem cells_remap {i : Nat} {f : Nat → Nat → Option Nat → AV} {q : Nat → Nat → Nat → AV} (hf : ∀ g r l, isCell (f g r l) = true) (hq : ∀ g r k, isCell (q g r k) = true) (x : AV) :
    (remap i f q x).cells = x.cells.map (remap i f q) := by
  cases x with
  | agg cs => simp [remap, AV.cells, remaps_map]
  | own j g r l =>
    simp only [remap]
    split
    · rw [cell_cells (hf _ _ _)]; simp [AV.cells, remap, *]
    · simp [AV.cells, remap, *]
  | ptr j g r l =>
    simp only [remap]
    split
    · rw [cell_cells (hq _ _ _)]; simp [AV.cells, remap, *]
    · simp [AV.cells, remap, *]
  | _ => simp [remap, AV.cells]

theorem isCell_remap {i : Nat} {f : Nat → Nat → Option Nat → AV} {q : Nat → Nat → Nat → AV} (hf : ∀ g r l, isCell (f g r l) = true) (hq : ∀ g r k, isCell (q g r k) = true) {x : AV} (h : isCell x = true) : isCell (remap i f q x) = true := by
  cases x with
  | own j g r l =>
    simp only [remap]
    split
    · exact hf _ _ _
    · rfl
  | ptr j g r l =>
    simp only [remap]
    split
    · exact hq _ _ _
    · rfl
  | agg cs => simp [isCell] at h
  | tup cs => simp [isCell] at h
  | dead => simp [isCell] at h
  | _ => simp [remap, isCell]

section
variable {X : Ctx}

/-- A turning of references: what it must do to the two that it turns. -/
theorem remap_rel {s s' : St} {i : Nat} {f : Nat → Nat → Option Nat → AV} {q : Nat → Nat → Nat → AV} (hw : s'.w = s.w)
    (hp' : ∀ b, s'.Priv b → s.Priv b) (hf : ∀ g r l, isCell (f g r l) = true) (hq : ∀ g r k, isCell (q g r k) = true)
    (hoth : ∀ j, j ≠ i → ∀ o, s.H[j]? = some o → ∃ o', s'.H[j]? = some o' ∧ o'.live = o.live ∧ o'.gen = o.gen ∧ o'.box = o.box ∧ o'.es = o.es ∧ o'.rows.length = o.rows.length ∧ s'.loc j = s.loc j)
    (hown : ∀ g r l v, Rel s (.own i g r l) v → Rel s' (f g r l) v) (hptr : ∀ g r k v, Rel s (.ptr i g r k) v → Rel s' (q g r k) v)
    {x : AV} {v : Value} (hr : Rel s x v) : Rel s' (remap i f q x) v := by
  induction hr with
  | v x hx => simp only [remap]; exact .v x hx
  | nil es => simp only [remap]; exact .nil es
  | empty es a cap => simp only [remap]; exact .empty es a cap
  | lst es rows b off cap vals hcap hpriv hes hfree hcell hc _ ih =>
    simp only [remap]
    refine .lst es rows b off cap vals hcap (fun hne => ⟨by rw [hw]; exact (hpriv hne).1, fun h => (hpriv hne).2 (hp' _ h)⟩) hes hfree hcell (fun i j hi hj => by rw [hw]; exact hc i j hi hj) ?_
    intro a c x y hx hy
    have := ih a c x y hx hy
    rwa [remap_free (cells_free (hfree x (List.mem_of_getElem? hx)) hy)] at this
  | own j g row len o cur ty off cap ho hl hg hbox hn hcap fr hfr hb hoff =>
    simp only [remap]
    split
    · rename_i hji
      obtain rfl := Nat.eq_of_beq_eq_true hji
      exact hown _ _ _ _ (.own j g row len o cur ty off cap ho hl hg hbox hn hcap fr hfr hb hoff)
    · rename_i hji
      have hne : j ≠ i := fun h => by subst h; simp at hji
      obtain ⟨o', ho', e1, e2, e3, e4, e5, e6⟩ := hoth j hne o ho
      rw [← e6, ← lenOfOwn_eq e5 row len]
      refine .own j g row len o' cur ty off cap ho' (e1.trans hl) (e2.trans hg) (e3.trans hbox) (by rw [lenOfOwn_eq e5, e5]; exact hn) (by rw [lenOfOwn_eq e5]; exact hcap) fr hfr (by rw [e6, hw]; exact hb) (by rw [e4]; exact hoff)
  | ownStale j g row len o a n cap ho hs =>
    simp only [remap]
    split
    · rename_i hji
      obtain rfl := Nat.eq_of_beq_eq_true hji
      exact hown _ _ _ _ (.ownStale j g row len o a n cap ho hs)
    · rename_i hji
      have hne : j ≠ i := fun h => by subst h; simp at hji
      obtain ⟨o', ho', e1, e2, e3, e4, e5, e6⟩ := hoth j hne o ho
      exact .ownStale j g row len o' a n cap ho' (by rw [e1, e2]; exact hs)
  | ptr j g row off o ho hl hg hrow =>
    simp only [remap]
    split
    · rename_i hji
      obtain rfl := Nat.eq_of_beq_eq_true hji
      exact hptr _ _ _ _ (.ptr j g row off o ho hl hg hrow)
    · rename_i hji
      have hne : j ≠ i := fun h => by subst h; simp at hji
      obtain ⟨o', ho', e1, e2, e3, e4, e5, e6⟩ := hoth j hne o ho
      rw [← e6, ← e4]
      exact .ptr j g row off o' ho' (e1.trans hl) (e2.trans hg) (by rw [e5]; exact hrow)
  | ptrStale j g row off o a ho hs =>
    simp only [remap]
    split
    · rename_i hji
      obtain rfl := Nat.eq_of_beq_eq_true hji
      exact hptr _ _ _ _ (.ptrStale j g row off o a ho hs)
    · rename_i hji
      have hne : j ≠ i := fun h => by subst h; simp at hji
      obtain ⟨o', ho', e1, e2, e3, e4, e5, e6⟩ := hoth j hne o ho
      exact .ptrStale j g row off o' a ho' (by rw [e1, e2]; exact hs)
  | pl row off b base vals hsz hpriv hfree hcell hc _ ih =>
    simp only [remap]
    refine .pl row off b base vals (by rw [hw]; exact hsz) (fun h => hpriv (hp' _ h)) hfree hcell (fun j hj => by rw [hw]; exact hc j hj) ?_
    intro j y hy
    have := ih j y hy
    rwa [remap_free (cells_free hfree hy)] at this
  | fn g first cap fs cs h1 h2 _ _ ih1 ih2 =>
    simp only [remap, remaps_map]
    refine .fn g _ _ fs cs (by simpa using h1) (by simpa using h2) ?_ ?_
    · intro j x y hx hy
      simp only [List.getElem?_map, Option.map_eq_some_iff] at hx
      obtain ⟨z, hz, rfl⟩ := hx
      exact ih1 j z y hz hy
    · intro j x y hx hy
      simp only [List.getElem?_map, Option.map_eq_some_iff] at hx
      obtain ⟨z, hz, rfl⟩ := hx
      exact ih2 j z y hz hy
  | iface t x v _ ih => simp only [remap]; exact .iface t _ v ih
  | agg cs vs h1 hcell _ ih =>
    simp only [remap, remaps_map]
    refine .agg _ vs (by simpa using h1) ?_ ?_
    · intro c hc
      obtain ⟨z, hz, rfl⟩ := List.mem_map.1 hc
      exact isCell_remap hf hq (hcell z hz)
    · intro j x y hx hy
      simp only [List.getElem?_map, Option.map_eq_some_iff] at hx
      obtain ⟨z, hz, rfl⟩ := hx
      exact ih j z y hz hy
  | tup cs vs h1 _ ih =>
    simp only [remap, remaps_map]
    refine .tup _ vs (by simpa using h1) ?_
    intro j x y hx hy
    simp only [List.getElem?_map, Option.map_eq_some_iff] at hx
    obtain ⟨z, hz, rfl⟩ := hx
    exact ih j z y hz hy
  | junk v hv => simp only [remap]; exact .junk v hv
  | dead v => simp only [remap]; exact .dead v

theorem RelEnv.remap {s s' : St} {i : Nat} {f : Nat → Nat → Option Nat → AV} {q : Nat → Nat → Nat → AV} {e : Env} {t : Array Value} (hr : RelEnv s e t)
    (h : ∀ x v, Rel s x v → Rel s' (remap i f q x) v) : RelEnv s' (remaps i f q e) t := by
  rw [remaps_map]
  refine ⟨by simpa using hr.1, fun j x y hx hy => ?_⟩
  simp only [List.getElem?_map, Option.map_eq_some_iff] at hx
  obtain ⟨z, hz, rfl⟩ := hx
  exact h _ _ (hr.2 j z y hz hy)

/-- An object of a heap whose boxes' references are turned. -/
theorem ObjOk.remap {s s' : St} {i j : Nat} {f : Nat → Nat → Option Nat → AV} {q : Nat → Nat → Nat → AV} {o o' : Obj} (hk : ObjOk s j o) (hw : s'.w = s.w) (hloc : s'.loc j = s.loc j) (hm : s'.mask = s.mask)
    (hf : ∀ g r l, isCell (f g r l) = true) (hq : ∀ g r k, isCell (q g r k) = true) (h : ∀ x v, Rel s x v → Rel s' (remap i f q x) v)
    (e1 : o'.rows = match o.box with | true => remaps i f q o.rows | false => o.rows) (e2 : o'.box = o.box) (e3 : o'.es = o.es) (e4 : o'.ty = o.ty) (e5 : o'.it = o.it) : ObjOk s' j o' := by
  have hlen : o'.rows.length = o.rows.length := by rw [e1]; split <;> simp [remaps_map]
  have hget : ∀ (r : Nat) (x : AV), o'.rows[r]? = some x → ∃ y, o.rows[r]? = some y ∧ x.cells = y.cells.map (Go.Ab.remap i f q) := by
    intro r x hx
    rw [e1] at hx
    split at hx
    · rw [remaps_map] at hx
      simp only [List.getElem?_map, Option.map_eq_some_iff] at hx
      obtain ⟨y, hy, rfl⟩ := hx
      exact ⟨y, hy, cells_remap hf hq y⟩
    · rename_i hb
      refine ⟨x, hx, ?_⟩
      have hfr := hk.free hb x (List.mem_of_getElem? hx)
      apply List.ext_getElem?
      intro c
      simp only [List.getElem?_map]
      cases hc : x.cells[c]? with
      | none => rfl
      | some y => simp [remap_free (cells_free hfr hc)]
  refine ⟨fun hit => ?_, ?_, ?_, ?_, by rw [hloc, hm]; exact hk.mask, fun p hp => ?_⟩
  rotate_left 4
  · rw [e5] at hp
    obtain ⟨h1, h2⟩ := hk.iter p hp
    exact ⟨by rw [e2]; exact h1, by rw [hloc, hw]; exact h2⟩
  · rw [e5] at hit
    obtain ⟨cur, ty, fr, hfr, h1, h2, h3, h4⟩ := hk.block hit
    refine ⟨cur, ty, fr, hfr, by rw [hloc, hw]; exact h1, by rw [hlen, e3]; exact h2, fun hb => ?_, fun r c x y hx hy => ?_⟩
    · rw [e2] at hb
      rw [e4, e3, hlen]
      exact h3 hb
    · obtain ⟨z, hz, hzc⟩ := hget r x hx
      rw [hzc] at hy
      simp only [List.getElem?_map, Option.map_eq_some_iff] at hy
      obtain ⟨u, hu, rfl⟩ := hy
      obtain ⟨v, hv, hrel⟩ := h4 r c z u hz hu
      exact ⟨v, by rw [e3]; exact hv, h _ _ hrel⟩
  · intro x hx
    obtain ⟨r, hr⟩ := List.getElem?_of_mem hx
    obtain ⟨y, hy, hyc⟩ := hget r x hr
    rw [hyc, List.length_map, e3]
    exact hk.es y (List.mem_of_getElem? hy)
  · intro x hx c hc
    obtain ⟨r, hr⟩ := List.getElem?_of_mem hx
    obtain ⟨y, hy, hyc⟩ := hget r x hr
    rw [hyc] at hc
    obtain ⟨z, hz, rfl⟩ := List.mem_map.1 hc
    exact isCell_remap hf hq (hk.cell y (List.mem_of_getElem? hy) z hz)
  · intro hb x hx
    rw [e2] at hb
    rw [e1] at hx
    rw [hb] at hx
    exact hk.free hb x hx

/-- The heap behind a turning. -/
theorem remapAll_get {i : Nat} {f : Nat → Nat → Option Nat → AV} {q : Nat → Nat → Nat → AV} {e : Env} {h : Heap} (j : Nat) :
    (remapAll i f q e h).2[j]? = (h[j]?).map (remapObj i f q) := by
  simp [remapAll]

/-- A generation's number is turned. -/
theorem regen1_ok {s0 s : St} (hok : Ok X s) (hst : Step s0 s) {e : Env} {t : Array Value} (hr : RelEnv s e t) {i n ver : Nat} (hn : ∀ o0, s0.H[i]? = some o0 → o0.live = true → o0.gen < n) :
    ∃ s' : St, s'.w = s.w ∧ s'.H = (regen1 i n ver e s.H).2 ∧ Step s0 s' ∧ Ok X s' ∧ RelEnv s' (regen1 i n ver e s.H).1 t := by
  unfold regen1
  cases ho : s.H[i]? with
  | none => exact ⟨s, rfl, rfl, hst, hok, hr⟩
  | some o =>
    simp only []
    generalize hF : (fun g r l => match Nat.beq g o.gen with | true => AV.own i n r l | false => AV.junk : Nat → Nat → Option Nat → AV) = F
    generalize hQ : (fun g r k => match Nat.beq g o.gen with | true => AV.ptr i n r k | false => AV.junk : Nat → Nat → Nat → AV) = Q
    have hFc : ∀ g r l, isCell (F g r l) = true := by intro g r l; rw [← hF]; simp only []; split <;> rfl
    have hQc : ∀ g r k, isCell (Q g r k) = true := by intro g r k; rw [← hQ]; simp only []; split <;> rfl
    let o1 : Obj := remapObj i F Q o
    have ho1 : (remapAll i F Q e s.H).2[i]? = some o1 := by rw [remapAll_get, ho]; rfl
    have hi : i < (remapAll i F Q e s.H).2.length := (List.getElem?_eq_some_iff.1 ho1).1
    have hH : setObj (remapAll i F Q e s.H).2 i (fun o => { o with gen := n, ver := ver }) = (remapAll i F Q e s.H).2.set i { o1 with gen := n, ver := ver } := by
      rw [setObj_eq, ho1]
    rw [hH]
    let s' : St := { w := s.w, H := (remapAll i F Q e s.H).2.set i { o1 with gen := n, ver := ver }, loc := s.loc, mask := s.mask }
    have hme : s'.H[i]? = some { o1 with gen := n, ver := ver } := by simp only [s']; exact List.getElem?_set_self hi
    have hoth : ∀ j, j ≠ i → s'.H[j]? = (s.H[j]?).map (remapObj i F Q) := fun j hj => by
      simp only [s']
      rw [List.getElem?_set_ne (Ne.symm hj), remapAll_get]
    have e1l : o1.live = o.live := by simp only [o1, remapObj]; split <;> rfl
    have e1b : o1.box = o.box := by simp only [o1, remapObj]; split <;> rfl
    have e1e : o1.es = o.es := by simp only [o1, remapObj]; split <;> rfl
    have e1t : o1.ty = o.ty := by simp only [o1, remapObj]; split <;> rfl
    have e1n : o1.rows.length = o.rows.length := by simp only [o1, remapObj]; split <;> simp [remaps_map]
    have hback : ∀ (j : Nat) (oj : Obj), s'.H[j]? = some oj → ∃ o2, s.H[j]? = some o2 ∧ oj.live = o2.live ∧ oj.box = o2.box ∧ oj.es = o2.es ∧ oj.ty = o2.ty ∧ oj.rows.length = o2.rows.length ∧
        (oj.rows = match o2.box with | true => remaps i F Q o2.rows | false => o2.rows) ∧ (j ≠ i → oj.gen = o2.gen) ∧ (j = i → oj.gen = n) ∧ oj.it = o2.it := by
      intro j oj hj
      by_cases hji : j = i
      · subst hji
        rw [hme] at hj
        obtain rfl := Option.some.inj hj
        refine ⟨o, ho, e1l, e1b, e1e, e1t, e1n, ?_, fun h => absurd rfl h, fun _ => rfl, by simp only [o1, remapObj]; split <;> rfl⟩
        simp only [o1, remapObj]; split <;> simp [*]
      · rw [hoth j hji] at hj
        simp only [Option.map_eq_some_iff] at hj
        obtain ⟨o2, ho2, rfl⟩ := hj
        refine ⟨o2, ho2, ?_, ?_, ?_, ?_, ?_, ?_, fun _ => ?_, fun h => absurd h hji, ?_⟩ <;> (unfold remapObj; split) <;> simp [remaps_map, *]
    have hfwd : ∀ (j : Nat) (o2 : Obj), s.H[j]? = some o2 → ∃ oj, s'.H[j]? = some oj := by
      intro j o2 hj
      by_cases hji : j = i
      · subst hji; exact ⟨_, hme⟩
      · rw [hoth j hji, hj]; exact ⟨_, rfl⟩
    have hownEq : ∀ b, s'.Own b → s.Own b := by
      rintro b ⟨j, oj, hj, hl, hb⟩
      obtain ⟨o2, ho2, el, _⟩ := hback j oj hj
      exact ⟨j, o2, ho2, by rw [← el]; exact hl, hb⟩
    have hpriv : ∀ b, s'.Priv b → s.Priv b := fun b hb => hb.elim (fun h => .inl (hownEq b h)) .inr
    have htr : ∀ x v, Rel s x v → Rel s' (remap i F Q x) v := by
      intro x v hx
      refine remap_rel (s := s) (s' := s') rfl hpriv hFc hQc ?_ ?_ ?_ hx
      · intro j hj o2 ho2
        obtain ⟨oj, hoj⟩ := hfwd j o2 ho2
        obtain ⟨o3, ho3, a1, a2, a3, a4, a5, a6, a7, a8⟩ := hback j oj hoj
        rw [ho2] at ho3
        obtain rfl := Option.some.inj ho3
        exact ⟨oj, hoj, a1, a7 hj, a2, a3, a5, rfl⟩
      · intro g r l v hv
        rw [← hF]
        simp only []
        split
        · rename_i hg
          have hg := Nat.eq_of_beq_eq_true hg
          cases hv with
          | own _ _ _ _ o2 cur ty off cap ho2 hl hg2 hbox hnn hcap fr hfr hb hoff =>
            rw [ho] at ho2
            obtain rfl := Option.some.inj ho2
            rw [← lenOfOwn_eq (o' := { o1 with gen := n, ver := ver }) e1n r l]
            exact .own i n r l { o1 with gen := n, ver := ver } cur ty off cap hme (e1l.trans hl) rfl (e1b.trans hbox) (by rw [lenOfOwn_eq (o' := { o1 with gen := n, ver := ver }) e1n]; simp only; rw [e1n]; exact hnn)
              (by rw [lenOfOwn_eq (o' := { o1 with gen := n, ver := ver }) e1n]; exact hcap) fr hfr hb (by simp only [e1e]; exact hoff)
          | ownStale _ _ _ _ o2 a m cap ho2 hs =>
            rw [ho] at ho2
            obtain rfl := Option.some.inj ho2
            refine .ownStale i n r l { o1 with gen := n, ver := ver } a m cap hme ?_
            rcases hs with h | h
            · exact .inl (e1l.trans h)
            · omega
        · cases hv with
          | own => exact .junk _ rfl
          | ownStale => exact .junk _ rfl
      · intro g r k v hv
        rw [← hQ]
        simp only []
        split
        · rename_i hg
          have hg := Nat.eq_of_beq_eq_true hg
          cases hv with
          | ptr _ _ _ _ o2 ho2 hl hg2 hrow =>
            rw [ho] at ho2
            obtain rfl := Option.some.inj ho2
            have := Rel.ptr (s := s') i n r k { o1 with gen := n, ver := ver } hme (e1l.trans hl) rfl (by simp only; rw [e1n]; exact hrow)
            simp only [e1e] at this
            exact this
          | ptrStale _ _ _ _ o2 a ho2 hs =>
            rw [ho] at ho2
            obtain rfl := Option.some.inj ho2
            refine .ptrStale i n r k { o1 with gen := n, ver := ver } a hme ?_
            rcases hs with h | h
            · exact .inl (e1l.trans h)
            · omega
        · cases hv with
          | ptr => exact .junk _ rfl
          | ptrStale => exact .junk _ rfl
    refine ⟨s', rfl, rfl, ?_, ?_, hr.remap htr⟩
    · refine ⟨hst.io, hst.mask, hst.size, hst.keep, fun b hb hno h => hst.priv b hb hno (hownEq b h), fun j oj hj => ?_⟩
      obtain ⟨o2, ho2, a1, a2, a3⟩ := hst.ids j oj hj
      obtain ⟨o3, ho3⟩ := hfwd j o2 ho2
      obtain ⟨o4, ho4, b1, b2, b3, b4, b5, b6, b7, b8⟩ := hback j o3 ho3
      rw [ho2] at ho4
      obtain rfl := Option.some.inj ho4
      refine ⟨o3, ho3, fun h => by rw [b1]; exact a1 h, ?_, ?_⟩
      · intro hl
        by_cases hji : j = i
        · subst hji
          have hlj : oj.live = true := by
            cases hx : oj.live with
            | true => rfl
            | false => rw [b1, a1 hx] at hl; cases hl
          rw [b8.1 rfl]
          exact Nat.le_of_lt (hn oj hj hlj)
        · rw [b7 hji]
          exact a2 (by rw [← b1]; exact hl)
      · intro hl hg
        by_cases hji : j = i
        · subst hji
          have hlj : oj.live = true := by
            cases hx : oj.live with
            | true => rfl
            | false => rw [b1, a1 hx] at hl; cases hl
          have := hn oj hj hlj
          rw [b8.1 rfl] at hg
          omega
        · obtain ⟨c1, c2, c3, c4, c5⟩ := a3 (by rw [← b1]; exact hl) (by rw [← b7 hji]; exact hg)
          exact ⟨c1, b5.trans c2, b3.trans c3, b2.trans c4, c5⟩
    · refine ⟨fun a b oa ob ha hb hla hlb he => ?_, fun j oj hj hl => ?_, fun gg x hx => ?_, hok.maskLt⟩
      · obtain ⟨o2, ho2, a1, _⟩ := hback a oa ha
        obtain ⟨o3, ho3, b1, _⟩ := hback b ob hb
        exact hok.inj a b o2 o3 ho2 ho3 (by rw [← a1]; exact hla) (by rw [← b1]; exact hlb) he
      · obtain ⟨o2, ho2, b1, b2, b3, b4, b5, b6, b7, b8, b9⟩ := hback j oj hj
        exact (hok.obj j o2 ho2 (by rw [← b1]; exact hl)).remap rfl rfl rfl hFc hQc htr b6 b2 b3 b4 b9
      · refine (hok.glob gg x hx).here rfl fun h => ?_
        have := htr _ _ h
        simpa only [Go.Ab.remap] using this

theorem regen_ok {s0 : St} {t : Array Value} : ∀ (ts : List (Nat × Nat × Nat)) {s : St} {e : Env}, Ok X s → Step s0 s → RelEnv s e t → (∀ p ∈ ts, ∀ o0, s0.H[p.1]? = some o0 → o0.live = true → o0.gen < p.2.1) →
    ∃ s' : St, s'.w = s.w ∧ s'.H = (regen ts e s.H).2 ∧ Step s0 s' ∧ Ok X s' ∧ RelEnv s' (regen ts e s.H).1 t
  | [], s, e, hok, hst, hr, _ => ⟨s, rfl, rfl, hst, hok, hr⟩
  | (i, n, ver) :: ts, s, e, hok, hst, hr, hn => by
    obtain ⟨s1, hw1, hH1, hst1, hok1, hr1⟩ := regen1_ok hok hst hr (i := i) (n := n) (ver := ver) (hn (i, n, ver) (by simp))
    obtain ⟨s2, hw2, hH2, hst2, hok2, hr2⟩ := regen_ok ts hok1 hst1 hr1 (fun p hp => hn p (by simp [hp]))
    rw [hH1] at hH2 hr2
    exact ⟨s2, hw2.trans hw1, hH2, hst2, hok2, hr2⟩
end
end Go.Ab
