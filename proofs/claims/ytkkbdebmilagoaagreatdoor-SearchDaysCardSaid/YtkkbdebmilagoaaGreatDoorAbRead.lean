/- How arguments are read as data: slices within structs and slices too. -/
import Derived.Test.YtkkbdebmilagoaaGreatDoorAbRow
set_option linter.unusedVariables false
set_option linter.unusedSimpArgs false
namespace Go.Ab
open Go Go.ChangeShapes Go.WideShapes Go.RowKit

/-- Data's cells, slices too. -/
def rdC {H : Type} (P : Program) : Nat → TypeId → DataW H → List AV
  | 0, _, _ => []
  | n + 1, t, d => match P.underlying t with
    | some (.int _) => [avS d]
    | some .bool => [avS d]
    | some .string => [avS d]
    | some (.struct fs) => match d with
      | .agg ps => rdGo (rdC P n) fs.toList ps
      | _ => []
    | some (.array _ e) => match d with
      | .agg ps => ps.flatMap fun x => rdC P n e x
      | _ => []
    | some (.slice e) => match d with
      | .slice elems _ => [.lst (P.cellsOf e) false (elems.map fun x => rowOf (kindT P e) (rdC P n e x))]
      | _ => [.lst (P.cellsOf e) true []]
    | _ => []
def rdV {H : Type} (P : Program) (n : Nat) (t : TypeId) (d : DataW H) : AV := rowOf (kindT P t) (rdC P n t d)

def readT (P : Program) : Nat → TypeId → Bool
  | 0, _ => false
  | n + 1, t => match P.underlying t with
    | some (.int _) => Nat.beq (P.cellsOf t) 1
    | some .bool => Nat.beq (P.cellsOf t) 1
    | some .string => Nat.beq (P.cellsOf t) 1
    | some (.struct fs) => plainGo P (readT P n) fs.toList 0 (P.cellsOf t)
    | some (.array k e) => (readT P n e && k.ble 256) && Nat.beq (P.cellsOf t) (k * P.cellsOf e)
    | some (.slice e) => (readT P n e && !Nat.beq (P.cellsOf e) 0) && Nat.beq (P.cellsOf t) 1
    | _ => false
theorem read_kind {P : Program} {n : Nat} {t : TypeId} (hp : readT P n t = true) : kindT P t = some true ∨ P.cellsOf t = 1 := by
  cases n with
  | zero => simp [readT] at hp
  | succ n =>
    unfold readT at hp
    split at hp
    · exact .inr (Nat.eq_of_beq_eq_true hp)
    · exact .inr (Nat.eq_of_beq_eq_true hp)
    · exact .inr (Nat.eq_of_beq_eq_true hp)
    · rename_i ht; exact .inl (by unfold kindT; rw [ht])
    · rename_i ht; exact .inl (by unfold kindT; rw [ht])
    · simp only [Bool.and_eq_true] at hp
      exact .inr (Nat.eq_of_beq_eq_true hp.2)
    · cases hp

section
variable {H : Type} {enc : TypeId × Value → H} {P : Program} {w : World} {base : Nat} {spare : Nat → Bool} {held : Bool}

theorem one_cell {s : St} {x : AV} {v : Value} (h : Rel s x v) (hc : isCell x = true) (hf : refFree x = true) : RdIs s [x] [v] :=
  ⟨rfl, fun c h => by simp at h; subst h; exact ⟨hc, hf⟩, fun j u y hu hy => by
    cases j with
    | zero => simp at hu hy; subst hu; subst hy; exact h
    | succ j => simp at hu⟩

theorem read_cells : ∀ (n : Nat) (t : TypeId) (fuel : Nat) (cs : List Value) (x : DataW H × List MemPlace), readT P n t = true → DataW.trod enc P w base spare held fuel t cs = some x →
    RdIs (St.init w) (rdC P n t x.1) cs ∧ cs.length = P.cellsOf t
  | 0, t, fuel, cs, x, hp, _ => by simp [readT] at hp
  | n + 1, t, fuel, cs, x, hp, h => by
    unfold readT at hp
    split at hp
    · rename_i k ht
      simp only [rdC, ht]
      have hs : scalarT P t = true := by unfold scalarT; rw [ht]
      exact ⟨trod_scal hs h _, by rw [Nat.eq_of_beq_eq_true hp, ← (trod_scal hs h (St.init w)).len]; rfl⟩
    · rename_i ht
      simp only [rdC, ht]
      have hs : scalarT P t = true := by unfold scalarT; rw [ht]
      exact ⟨trod_scal hs h _, by rw [Nat.eq_of_beq_eq_true hp, ← (trod_scal hs h (St.init w)).len]; rfl⟩
    · rename_i ht
      simp only [rdC, ht]
      have hs : scalarT P t = true := by unfold scalarT; rw [ht]
      exact ⟨trod_scal hs h _, by rw [Nat.eq_of_beq_eq_true hp, ← (trod_scal hs h (St.init w)).len]; rfl⟩
    · rename_i fs ht
      simp only [rdC, ht]
      cases fuel with
      | zero => simp [DataW.trod] at h
      | succ m =>
        unfold DataW.trod at h
        simp only [ht] at h
        split at h
        · rename_i hl
          obtain ⟨xs, hxs, rfl⟩ := Option.map_eq_some_iff.1 h
          refine ⟨?_, hl⟩
          have key : ∀ (fl : List Field) (xs : List (DataW H × List MemPlace)) (k : Nat), plainGo P (readT P n) fl k (P.cellsOf t) = true → k ≤ cs.length →
              fl.mapM (fun f => DataW.trod enc P w base spare held m f.type ((cs.drop f.offset).take (P.cellsOf f.type))) = some xs → RdIs (St.init w) (rdGo (rdC P n) fl (xs.map (·.1))) (cs.drop k) := by
            intro fl
            induction fl with
            | nil =>
              intro xs k hg hk hm
              simp at hm
              subst hm
              have : k = cs.length := by rw [hl]; exact Nat.eq_of_beq_eq_true (by simpa only [plainGo] using hg)
              subst this
              simp only [List.map_nil, rdGo, List.drop_length]
              exact RdIs.nil _
            | cons f fl ih =>
              intro xs k hg hk hm
              simp only [plainGo, Bool.and_eq_true] at hg
              obtain ⟨⟨ho, hpt⟩, hg⟩ := hg
              have ho := Nat.eq_of_beq_eq_true ho
              rw [List.mapM_cons] at hm
              cases hy : DataW.trod enc P w base spare held m f.type ((cs.drop f.offset).take (P.cellsOf f.type)) with
              | none => simp [hy] at hm
              | some y =>
                cases hys : fl.mapM (fun f => DataW.trod enc P w base spare held m f.type ((cs.drop f.offset).take (P.cellsOf f.type))) with
                | none => simp [hy, hys] at hm
                | some ys =>
                  simp [hy, hys] at hm
                  subst hm
                  obtain ⟨c1, l1⟩ := read_cells n f.type m _ y hpt hy
                  rw [ho] at c1 l1
                  simp only [List.length_take, List.length_drop] at l1
                  have c2 := ih ys (k + P.cellsOf f.type) hg (by omega) hys
                  have : cs.drop k = (cs.drop k).take (P.cellsOf f.type) ++ cs.drop (k + P.cellsOf f.type) := by
                    rw [← List.drop_drop, List.take_append_drop]
                  rw [this]
                  simp only [List.map_cons, rdGo]
                  exact c1.append c2
          have := key fs.toList xs 0 hp (Nat.zero_le _) hxs
          simpa using this
        · cases h
    · rename_i k e ht
      simp only [rdC, ht]
      simp only [Bool.and_eq_true] at hp
      obtain ⟨⟨hpe, hk32⟩, hc⟩ := hp
      have hc := Nat.eq_of_beq_eq_true hc
      obtain ⟨xs, m, rfl, rfl, hl, hxl, hx⟩ := DataW.trod_array ht h
      refine ⟨?_, hl⟩
      simp only []
      have key : ∀ (i : Nat), i ≤ k → RdIs (St.init w) (((xs.drop i).map (·.1)).flatMap fun x => rdC P n e x) (cs.drop (i * P.cellsOf e)) := by
        intro i hi
        obtain ⟨d, hd⟩ : ∃ d, k - i = d := ⟨_, rfl⟩
        induction d generalizing i with
        | zero =>
          have hik : i = k := by omega
          subst hik
          rw [List.drop_eq_nil_of_le (by omega), List.drop_eq_nil_of_le (by rw [hl, hc]; exact Nat.le_refl _)]
          exact RdIs.nil _
        | succ d ih =>
          have hlt : i < xs.length := by omega
          have h1 := hx i (by omega)
          rw [List.getElem?_eq_getElem hlt] at h1
          obtain ⟨c1, l1⟩ := read_cells n e m _ _ hpe h1
          have c2 := ih (i + 1) (by omega) (by omega)
          rw [List.drop_eq_getElem_cons hlt]
          have : cs.drop (i * P.cellsOf e) = (cs.drop (i * P.cellsOf e)).take (P.cellsOf e) ++ cs.drop ((i + 1) * P.cellsOf e) := by
            rw [show (i + 1) * P.cellsOf e = i * P.cellsOf e + P.cellsOf e by rw [Nat.add_mul, Nat.one_mul], ← List.drop_drop, List.take_append_drop]
          rw [this]
          simp only [List.map_cons, List.flatMap_cons]
          exact c1.append c2
      have := key 0 (Nat.zero_le _)
      simpa using this
    · rename_i e ht
      simp only [rdC, ht]
      simp only [Bool.and_eq_true] at hp
      obtain ⟨⟨hpe, hnz⟩, hc1⟩ := hp
      have hc1 := Nat.eq_of_beq_eq_true hc1
      have hpos := not_beq hnz
      rcases DataW.trod_slice ht h with ⟨rfl, rfl⟩ | ⟨a, len, cap, elems, rest, m, rfl, rfl, rfl, hb, hlc, _, hel, hget, _, _⟩
      · exact ⟨one_cell (.nil _) rfl rfl, by rw [hc1]; rfl⟩
      · refine ⟨one_cell ?_ rfl rfl, by rw [hc1]; rfl⟩
        cases len with
        | zero =>
          have : elems = [] := List.eq_nil_of_length_eq_zero hel
          subst this
          exact .empty _ a cap
        | succ len =>
        have hspot : a.spot = none := by
          have h0 := hget 0 (Nat.succ_pos _)
          rw [List.getElem?_eq_getElem (by omega)] at h0
          obtain ⟨cs, hcs, _⟩ := Option.bind_eq_some_iff.1 h0
          unfold World.cells? at hcs
          split at hcs
          · have := mapM_some_get hcs 0 0 (by simp [Nat.pos_of_ne_zero hpos])
            cases hsp : a.spot with
            | none => rfl
            | some sp =>
              exfalso
              have h1 : w.cell? ((a.add (0 * P.cellsOf e)).add 0) = none := by
                simp only [Nat.zero_mul, Addr.add, if_true]
                unfold World.cell?
                split
                · rw [hsp]; rfl
                · rfl
              rw [h1] at this
              have hlen := mapM_some_length hcs
              simp only [List.length_range] at hlen
              rw [List.getElem?_eq_getElem (by omega)] at this
              cases this
          · cases hcs
        have hrow : ∀ i, i < len + 1 → ∃ cs x, elems[i]? = some x ∧ DataW.trod enc P w base spare held m e cs = some x ∧ cs.length = P.cellsOf e ∧ ∀ j, j < P.cellsOf e → w.cell? (ad a.block (a.off + i * P.cellsOf e + j)) = cs[j]? := by
          intro i hi
          have h3 := hget i hi
          have hlt : i < elems.length := by omega
          rw [List.getElem?_eq_getElem hlt] at h3
          obtain ⟨cs, hcs, htr⟩ := Option.bind_eq_some_iff.1 h3
          refine ⟨cs, _, List.getElem?_eq_getElem hlt, htr, ?_, fun j hj => ?_⟩
          · unfold World.cells? at hcs
            split at hcs
            · simpa using mapM_some_length hcs
            · cases hcs
          · unfold World.cells? at hcs
            split at hcs
            · have := mapM_some_get hcs j j (by simp [hj])
              rw [ad_of hspot] at this
              rw [← this]
              rw [ad_of (a := ad a.block (a.off + i * P.cellsOf e)) rfl]
              rfl
            · cases hcs
        have hcel : ∀ {cs : List Value} {x : DataW H × List MemPlace}, DataW.trod enc P w base spare held m e cs = some x → (rowOf (kindT P e) (rdC P n e x.1)).cells = rdC P n e x.1 := by
          intro cs x htr
          obtain ⟨q1, q2⟩ := read_cells n e m cs x hpe htr
          exact rowOf_cells ((read_kind hpe).imp id fun hc => ⟨by rw [q1.len, q2, hc], fun c hm => (q1.cell c hm).1⟩)
        have hlen : ((elems.map (·.1)).map fun x => rowOf (kindT P e) (rdC P n e x)).length = len + 1 := by simp [hel]
        have hmem : ∀ q ∈ (elems.map (·.1)).map fun x => rowOf (kindT P e) (rdC P n e x), ∃ cs x, q = rowOf (kindT P e) (rdC P n e x.1) ∧ DataW.trod enc P w base spare held m e cs = some x ∧ cs.length = P.cellsOf e := by
          intro q hq
          simp only [List.mem_map] at hq
          obtain ⟨_, ⟨x, hx, rfl⟩, rfl⟩ := hq
          obtain ⟨i, hi⟩ := List.getElem?_of_mem hx
          obtain ⟨cs, x2, h4, h5, h6, _⟩ := hrow i (by rw [← hel]; exact (List.getElem?_eq_some_iff.1 hi).1)
          rw [hi] at h4
          cases h4
          exact ⟨cs, x, rfl, h5, h6⟩
        have hpriv : ((elems.map (·.1)).map fun x => rowOf (kindT P e) (rdC P n e x)) ≠ [] → a.block < (St.init w).w.heap.size ∧ ¬ (St.init w).Priv a.block := by
          intro hne
          obtain ⟨cs, x, _, _, hl, hc⟩ := hrow 0 (Nat.succ_pos _)
          have h1 := hc 0 (by omega)
          rw [List.getElem?_eq_getElem (by omega)] at h1
          exact ⟨cell_block h1, St.init_priv w _⟩
        have hres := Rel.lst (s := St.init w) (P.cellsOf e) ((elems.map (·.1)).map fun x => rowOf (kindT P e) (rdC P n e x)) a.block a.off cap (fun i j => (w.cell? (ad a.block (a.off + i * P.cellsOf e + j))).getD undef) (by omega) hpriv
          (fun q hq => by
            obtain ⟨cs, x, rfl, htr, hl⟩ := hmem q hq
            rw [hcel htr, (read_cells n e m _ _ hpe htr).1.len, hl])
          (fun q hq => by
            obtain ⟨cs, x, rfl, htr, hl⟩ := hmem q hq
            refine refFree_cells fun c hc => ?_
            rw [hcel htr] at hc
            exact ((read_cells n e m _ _ hpe htr).1.cell c hc).2)
          (fun q hq c hc => by
            obtain ⟨cs, x, rfl, htr, hl⟩ := hmem q hq
            rw [hcel htr] at hc
            exact ((read_cells n e m _ _ hpe htr).1.cell c hc).1)
          (fun i j hi hj => by
            obtain ⟨cs, x, _, _, hl, hc⟩ := hrow i (by omega)
            have h1 := hc j hj
            rw [List.getElem?_eq_getElem (by omega)] at h1
            show w.cell? _ = _
            rw [h1]; rfl)
          (fun i j q z hq hz => by
            have hi : i < len + 1 := by rw [← hlen]; exact (List.getElem?_eq_some_iff.1 hq).1
            obtain ⟨cs, x, h4, htr, hl, hc⟩ := hrow i hi
            simp only [List.getElem?_map, h4, Option.map_some, Option.some.injEq] at hq
            subst hq
            rw [hcel htr] at hz
            have hR := (read_cells n e m _ _ hpe htr).1
            have hj : j < P.cellsOf e := by rw [← hl, ← hR.len]; exact (List.getElem?_eq_some_iff.1 hz).1
            have h1 := hc j hj
            rw [List.getElem?_eq_getElem (by omega)] at h1
            rw [h1]
            exact hR.rel j z _ hz (List.getElem?_eq_getElem (by omega)))
        rw [hlen] at hres
        obtain ⟨b, o, sp⟩ := a
        simp only at hspot
        subst hspot
        exact hres
    · cases hp

/-- One value that is read, slices too. -/
theorem read_rel {n : Nat} {t : TypeId} {v : Value} {d : DataW H} {ps : List MemPlace} {r : Reach} {b0 : Nat} (hp : readT P n t = true) (hval : Value.okWide P w r b0 t v) (h : DataW.Trod enc P w base spare held t v d ps) :
    Rel (St.init w) (rdV P n t d) v := by
  obtain ⟨fuel, h⟩ := h
  obtain ⟨hc, hl⟩ := read_cells n t fuel _ _ hp h
  unfold rdV
  have scal : (∃ x, v.cells.toList = [x] ∧ v = x) → kindT P t = some false → Rel (St.init w) (rowOf (kindT P t) (rdC P n t d)) v := by
    rintro ⟨x, hx, rfl⟩ hk
    rw [hk]
    show Rel _ ((rdC P n t d).getD 0 .dead) v
    rw [hx] at hc
    have hlen := hc.len
    match hrc : rdC P n t d, hlen with
    | [y], _ => exact hc.rel 0 y v (by simp [hrc]) rfl
  cases n with
  | zero => simp [readT] at hp
  | succ n =>
    unfold readT at hp
    split at hp
    · rename_i k ht
      obtain ⟨m, e1, _, _⟩ := DataW.trod_int ht h
      refine scal ⟨.int k m, e1, ?_⟩ (by unfold kindT; rw [ht])
      cases v <;> simp_all [Value.cells, Value.okWide, Cell.okWide, Cell.ok]
    · rename_i ht
      obtain ⟨m, e1, _⟩ := DataW.trod_bool ht h
      refine scal ⟨.bool m, e1, ?_⟩ (by unfold kindT; rw [ht])
      cases v <;> simp_all [Value.cells, Value.okWide, Cell.okWide, Cell.ok]
    · rename_i ht
      obtain ⟨m, e1, _, _⟩ := DataW.trod_string ht h
      refine scal ⟨.string m, e1, ?_⟩ (by unfold kindT; rw [ht])
      cases v <;> simp_all [Value.cells, Value.okWide, Cell.okWide, Cell.ok]
    · rename_i fs ht
      have hk : kindT P t = some true := by unfold kindT; rw [ht]
      rw [hk]
      unfold Value.okWide at hval
      rw [ht] at hval
      obtain ⟨cs, rfl, hsz, _⟩ := hval
      simp only [Value.cells] at hc
      exact .agg _ _ (by simpa using hc.len.symm) (fun c hcm => (hc.cell c hcm).1) (fun j x y hx hy => hc.rel j x y hx (by simpa using hy))
    · rename_i k e ht
      have hk : kindT P t = some true := by unfold kindT; rw [ht]
      rw [hk]
      unfold Value.okWide at hval
      rw [ht] at hval
      obtain ⟨cs, rfl, hsz, _⟩ := hval
      simp only [Value.cells] at hc
      exact .agg _ _ (by simpa using hc.len.symm) (fun c hcm => (hc.cell c hcm).1) (fun j x y hx hy => hc.rel j x y hx (by simpa using hy))
    · rename_i e ht
      have hv : Cell.ok P w r b0 t v := by
        unfold Value.okWide at hval
        rw [ht] at hval
        unfold Cell.okWide at hval
        rw [ht] at hval
        exact hval
      refine scal ?_ (by unfold kindT; rw [ht])
      unfold Cell.ok at hv
      rw [ht] at hv
      cases v <;> first | exact ⟨_, rfl, rfl⟩ | exact hv.elim
    · cases hp

/-- The look of what is read. -/
inductive RSh where
  | int (k : IntKind)
  | bool
  | str
  | lst (es : Nat) (agg : Bool) (e : List RSh)
def rshGo (P : Program) (rd : TypeId → List RSh) : List Field → List RSh
  | [] => []
  | f :: fs => rd f.type ++ rshGo P rd fs
def rsh (P : Program) : Nat → TypeId → List RSh
  | 0, _ => []
  | n + 1, t => match P.underlying t with
    | some (.int k) => [.int k]
    | some .bool => [.bool]
    | some .string => [.str]
    | some (.struct fs) => rshGo P (rsh P n) fs.toList
    | some (.array k e) => (List.replicate k (rsh P n e)).flatten
    | some (.slice e) => [.lst (P.cellsOf e) (match kindT P e with | some true => true | _ => false) (rsh P n e)]
    | _ => []
mutual
def fitR : RSh → AV → Prop
  | .int k, c => ∃ m, c = .v (.int k m) ∧ (Lit.int k m).wf = true
  | .bool, c => ∃ b, c = .v (.bool b)
  | .str, c => ∃ s, c = .v (.string s)
  | .lst es agg ss, c => ∃ nl rows, c = .lst es nl rows ∧ (nl = true → rows = []) ∧ ∀ r ∈ rows, ∃ cs, r = rowOf (some agg) cs ∧ fitRs ss cs
def fitRs : List RSh → List AV → Prop
  | [], l => l = []
  | s :: ss, l => ∃ c cs, l = c :: cs ∧ fitR s c ∧ fitRs ss cs
end
theorem fitRs_append : ∀ {a b : List RSh} {x y : List AV}, fitRs a x → fitRs b y → fitRs (a ++ b) (x ++ y)
  | [], b, x, y, h1, h2 => by
    simp only [fitRs] at h1
    subst h1
    exact h2
  | s :: ss, b, x, y, h1, h2 => by
    simp only [fitRs] at h1
    obtain ⟨c, cs, rfl, h3, h4⟩ := h1
    simp only [List.cons_append, fitRs]
    exact ⟨c, cs ++ y, rfl, h3, fitRs_append h4 h2⟩
theorem read_fit : ∀ (n : Nat) (t : TypeId) (fuel : Nat) (cs : List Value) (x : DataW H × List MemPlace), readT P n t = true → DataW.trod enc P w base spare held fuel t cs = some x → fitRs (rsh P n t) (rdC P n t x.1)
  | 0, t, fuel, cs, x, hp, _ => by simp [readT] at hp
  | n + 1, t, fuel, cs, x, hp, h => by
    unfold readT at hp
    split at hp
    · rename_i k ht
      have h1 := trod_fit (n := 1) (P := P) (t := t) fuel cs x (by unfold plainT; rw [ht]; exact hp) h
      rw [show (shOf P 1 t).cells = [.int k] by simp [shOf, ht, Sh.cells]] at h1
      simp only [rsh, rdC, ht]
      rw [show rdCells P 1 t x.1 = [avS x.1] by simp [rdCells, ht]] at h1
      obtain ⟨c, cs, e1, q, g⟩ := fitL_cons h1
      obtain rfl := fitL_nil g
      rw [e1]
      simp only [fitRs]
      exact ⟨c, [], rfl, q, rfl⟩
    · rename_i ht
      have h1 := trod_fit (n := 1) (P := P) (t := t) fuel cs x (by unfold plainT; rw [ht]; exact hp) h
      rw [show (shOf P 1 t).cells = [.bool] by simp [shOf, ht, Sh.cells]] at h1
      simp only [rsh, rdC, ht]
      rw [show rdCells P 1 t x.1 = [avS x.1] by simp [rdCells, ht]] at h1
      obtain ⟨c, cs, e1, q, g⟩ := fitL_cons h1
      obtain rfl := fitL_nil g
      rw [e1]
      simp only [fitRs]
      exact ⟨c, [], rfl, q, rfl⟩
    · rename_i ht
      have h1 := trod_fit (n := 1) (P := P) (t := t) fuel cs x (by unfold plainT; rw [ht]; exact hp) h
      rw [show (shOf P 1 t).cells = [.str] by simp [shOf, ht, Sh.cells]] at h1
      simp only [rsh, rdC, ht]
      rw [show rdCells P 1 t x.1 = [avS x.1] by simp [rdCells, ht]] at h1
      obtain ⟨c, cs, e1, q, g⟩ := fitL_cons h1
      obtain rfl := fitL_nil g
      rw [e1]
      simp only [fitRs]
      exact ⟨c, [], rfl, by obtain ⟨s, hs, _⟩ := q; exact ⟨s, hs⟩, rfl⟩
    · rename_i fs ht
      simp only [rsh, rdC, ht]
      cases fuel with
      | zero => simp [DataW.trod] at h
      | succ m =>
        unfold DataW.trod at h
        simp only [ht] at h
        split at h
        · obtain ⟨xs, hxs, rfl⟩ := Option.map_eq_some_iff.1 h
          have key : ∀ (fl : List Field) (xs : List (DataW H × List MemPlace)) (k : Nat), plainGo P (readT P n) fl k (P.cellsOf t) = true →
              fl.mapM (fun f => DataW.trod enc P w base spare held m f.type ((cs.drop f.offset).take (P.cellsOf f.type))) = some xs → fitRs (rshGo P (rsh P n) fl) (rdGo (rdC P n) fl (xs.map (·.1))) := by
            intro fl
            induction fl with
            | nil =>
              intro xs k hg hm
              simp at hm
              subst hm
              simp [rshGo, rdGo, fitRs]
            | cons f fl ih =>
              intro xs k hg hm
              simp only [plainGo, Bool.and_eq_true] at hg
              obtain ⟨⟨ho, hpt⟩, hg⟩ := hg
              rw [List.mapM_cons] at hm
              cases hy : DataW.trod enc P w base spare held m f.type ((cs.drop f.offset).take (P.cellsOf f.type)) with
              | none => simp [hy] at hm
              | some y =>
                cases hys : fl.mapM (fun f => DataW.trod enc P w base spare held m f.type ((cs.drop f.offset).take (P.cellsOf f.type))) with
                | none => simp [hy, hys] at hm
                | some ys =>
                  simp [hy, hys] at hm
                  subst hm
                  simp only [rshGo, List.map_cons, rdGo]
                  exact fitRs_append (read_fit n f.type m _ y hpt hy) (ih ys _ hg hys)
          exact key fs.toList xs 0 hp hxs
        · cases h
    · rename_i k e ht
      simp only [rsh, rdC, ht]
      simp only [Bool.and_eq_true] at hp
      obtain ⟨⟨hpe, hk32⟩, hc⟩ := hp
      obtain ⟨xs, m, rfl, rfl, hl, hxl, hx⟩ := DataW.trod_array ht h
      simp only []
      have key : ∀ (d i : Nat), i + d = k → fitRs (List.replicate d (rsh P n e)).flatten (((xs.drop i).map (·.1)).flatMap fun x => rdC P n e x) := by
        intro d
        induction d with
        | zero =>
          intro i hi
          rw [List.drop_eq_nil_of_le (by omega)]
          simp [fitRs]
        | succ d ih =>
          intro i hi
          have hlt : i < xs.length := by omega
          have h1 := hx i (by omega)
          rw [List.getElem?_eq_getElem hlt] at h1
          rw [List.drop_eq_getElem_cons hlt]
          simp only [List.map_cons, List.flatMap_cons, List.replicate_succ, List.flatten_cons]
          exact fitRs_append (read_fit n e m _ _ hpe h1) (ih (i + 1) (by omega))
      have := key k 0 (by omega)
      simpa using this
    · rename_i e ht
      simp only [rsh, rdC, ht]
      simp only [Bool.and_eq_true] at hp
      obtain ⟨⟨hpe, hnz⟩, hc1⟩ := hp
      have hk : kindT P e = some (match kindT P e with | some true => true | _ => false) := by
        rcases read_kind hpe with h | h
        · rw [h]
        · cases hkk : kindT P e with
          | none =>
            exfalso
            cases n with
            | zero => simp [readT] at hpe
            | succ n =>
              unfold readT at hpe
              unfold kindT at hkk
              split at hpe <;> simp_all
          | some b => cases b <;> rfl
      rcases DataW.trod_slice ht h with ⟨rfl, rfl⟩ | ⟨a, len, cap, elems, rest, m, rfl, rfl, rfl, hb, hlc, _, hel, hget, _, _⟩
      · simp only [fitRs, fitR]
        exact ⟨_, [], rfl, ⟨true, [], rfl, fun _ => rfl, fun r hr => by simp at hr⟩, rfl⟩
      · simp only [fitRs, fitR]
        refine ⟨_, [], rfl, ⟨false, _, rfl, fun h => (by cases h), fun r hr => ?_⟩, rfl⟩
        simp only [List.mem_map] at hr
        obtain ⟨_, ⟨x, hx, rfl⟩, rfl⟩ := hr
        obtain ⟨i, hi⟩ := List.getElem?_of_mem hx
        have hil := (List.getElem?_eq_some_iff.1 hi).1
        have h3 := hget i (by omega)
        rw [hi] at h3
        obtain ⟨cs, hcs, htr⟩ := Option.bind_eq_some_iff.1 h3
        exact ⟨rdC P n e x.1, by rw [← hk], read_fit n e m cs x hpe htr⟩
    · cases hp
theorem Read_fit {n : Nat} {t : TypeId} {v : Value} {d : DataW H} {ps : List MemPlace} (hp : readT P n t = true) (h : DataW.Trod enc P w base spare held t v d ps) : fitRs (rsh P n t) (rdC P n t d) := by
  obtain ⟨fuel, h⟩ := h
  exact read_fit n t fuel _ _ hp h
end
/-- A listed variable, whatever it holds: slices too. -/
theorem glob_read {P : Program} {W : World} {laid : List (String × DataW Unit)} (h : laidMet P laid W) {n : String} {d : DataW Unit} (hm : (n, d) ∈ laid) {g : Nat} {t : TypeId} {k : Nat} (hg : P.globalNamed n = some g) (ht : (P.globals[g]?).map (·.type) = some t)
    (hp : readT P k t = true) {cells : List AV} (hc : rdC P k t d = cells) : GlobOk (St.init W) g (.agg cells) := by
  obtain ⟨ps, hl, _⟩ := h
  obtain ⟨g', t', cs, fuel, p, h1, h2, h3, h4⟩ := laidVars_mem hl hm
  obtain rfl := Option.some.inj (hg.symm.trans h1)
  obtain rfl := Option.some.inj (ht.symm.trans h2)
  obtain ⟨hR, hlen⟩ := read_cells k t fuel _ _ hp h4
  simp only [hc] at hR
  have hlen2 : cells.length = cs.size := by rw [hR.len]; simp
  refine ⟨?_, ?_⟩
  case refine_2 =>
    unfold World.var? at h3
    rw [hg] at h3
    simp only [Option.bind_some] at h3
    split at h3
    · rename_i c0 ty0 fr0 hb
      cases h3
      exact ⟨_, _, _, hb, hlen2.symm⟩
    · cases h3
  refine .pl (.agg cells) 0 g 0 (fun j => cs[j]?.getD undef) ?_ (St.init_priv W g) ?_ (fun c hcm => (hR.cell c hcm).1) ?_ ?_
  · unfold World.var? at h3
    rw [hg] at h3
    simp only [Option.bind_some] at h3
    split at h3
    · rename_i hb
      exact (Array.getElem?_eq_some_iff.1 hb).1
    · cases h3
  · show refFrees cells = true
    have : ∀ l : List AV, (∀ c ∈ l, refFree c = true) → refFrees l = true := by
      intro l
      induction l with
      | nil => intro _; rfl
      | cons a l ih => intro hl; simp only [refFrees, Bool.and_eq_true]; exact ⟨hl a List.mem_cons_self, ih fun c hc => hl c (List.mem_cons_of_mem _ hc)⟩
    exact this _ fun c hcm => (hR.cell c hcm).2
  · intro j hj
    have hj : j < cells.length := hj
    have := World.var?_cell hg h3 (0 + j)
    show W.cell? ⟨g, 0 + j, none⟩ = _
    rw [this, Nat.zero_add, Array.getElem?_eq_getElem (by omega)]
    simp
  · intro j y hy
    have hy : cells[j]? = some y := hy
    have hj := (List.getElem?_eq_some_iff.1 hy).1
    exact hR.rel j y _ hy (by simp [Array.getElem?_eq_getElem (show j < cs.size by omega)])
end Go.Ab
