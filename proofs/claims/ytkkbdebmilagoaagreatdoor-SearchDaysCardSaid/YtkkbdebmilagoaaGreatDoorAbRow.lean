/- From what is told of a law's function to the law's row: how arguments are read, and that they read as they did. -/
import Derived.Test.YtkkbdebmilagoaaGreatDoorAbTell
import Derived.Handed
import Derived.Carry
import Derived.OpenShut
import Derived.LaidMore
import Derived.Lay
set_option linter.unusedVariables false
set_option linter.unusedSimpArgs false
namespace Go.Ab
open Go Go.ChangeShapes Go.WideShapes Go.RowKit

def rdGo {H : Type} (rd : TypeId → DataW H → List AV) : List Field → List (DataW H) → List AV
  | f :: fs, x :: xs => rd f.type x ++ rdGo rd fs xs
  | _, _ => []
/-- Data's cells. -/
def rdCells {H : Type} (P : Program) : Nat → TypeId → DataW H → List AV
  | 0, _, _ => []
  | n + 1, t, d => match P.underlying t with
    | some (.int _) => [avS d]
    | some .bool => [avS d]
    | some .string => [avS d]
    | some (.struct fs) => match d with
      | .agg ps => rdGo (rdCells P n) fs.toList ps
      | _ => []
    | some (.array _ e) => match d with
      | .agg ps => ps.flatMap fun x => rdCells P n e x
      | _ => []
    | _ => []

def rowOf (k : Option Bool) (cs : List AV) : AV := match k with
  | some true => .agg cs
  | _ => cs.getD 0 .dead

/-- A value that is read as data. -/
def rdAV {H : Type} (P : Program) (n : Nat) (t : TypeId) (d : DataW H) : AV := rowOf (kindT P t) (rdCells P n t d)

def plainGo (P : Program) (p : TypeId → Bool) : List Field → Nat → Nat → Bool
  | [], k, m => Nat.beq k m
  | f :: fs, k, m => Nat.beq f.offset k && p f.type && plainGo P p fs (k + P.cellsOf f.type) m
/-- Numbers, truths, texts, and what is made of them, laid one behind the other. -/
def plainT (P : Program) : Nat → TypeId → Bool
  | 0, _ => false
  | n + 1, t => match P.underlying t with
    | some (.int _) => Nat.beq (P.cellsOf t) 1
    | some .bool => Nat.beq (P.cellsOf t) 1
    | some .string => Nat.beq (P.cellsOf t) 1
    | some (.struct fs) => plainGo P (plainT P n) fs.toList 0 (P.cellsOf t)
    | some (.array k e) => (plainT P n e && k.ble 32) && Nat.beq (P.cellsOf t) (k * P.cellsOf e)
    | _ => false

/-- These are those cells. -/
structure RdIs (s : St) (l : List AV) (cs : List Value) : Prop where
  len : l.length = cs.length
  cell : ∀ c ∈ l, isCell c = true ∧ refFree c = true
  rel : ∀ (j : Nat) (y : AV) (v : Value), l[j]? = some y → cs[j]? = some v → Rel s y v

theorem RdIs.nil (s : St) : RdIs s [] [] := ⟨rfl, by simp, by simp⟩
theorem RdIs.append {s : St} {a b : List AV} {x y : List Value} (h1 : RdIs s a x) (h2 : RdIs s b y) : RdIs s (a ++ b) (x ++ y) := by
  refine ⟨by simp [h1.len, h2.len], fun c hc => ?_, fun j u v hu hv => ?_⟩
  · rcases List.mem_append.1 hc with hc | hc
    · exact h1.cell c hc
    · exact h2.cell c hc
  · by_cases hj : j < a.length
    · rw [List.getElem?_append_left hj] at hu
      rw [List.getElem?_append_left (by rw [← h1.len]; exact hj)] at hv
      exact h1.rel j u v hu hv
    · rw [List.getElem?_append_right (by omega)] at hu
      rw [List.getElem?_append_right (by rw [← h1.len]; omega), ← h1.len] at hv
      exact h2.rel _ u v hu hv

section
variable {H : Type} {enc : TypeId × Value → H} {P : Program} {w : World} {base : Nat} {spare : Nat → Bool} {held : Bool}

theorem trod_scal {fuel : Nat} {t : TypeId} {cs : List Value} {x : DataW H × List MemPlace} (hs : scalarT P t = true) (h : DataW.trod enc P w base spare held fuel t cs = some x) (s : St) : RdIs s [avS x.1] cs := by
  obtain ⟨v, rfl, hr⟩ := trod_scalar hs h s
  have := avS_cell hs h
  exact ⟨rfl, fun c hc => by simp at hc; subst hc; exact this, fun j y u hy hu => by
    cases j with
    | zero => simp at hy hu; subst hy; subst hu; exact hr
    | succ j => simp at hy⟩

theorem trod_cells (s : St) : ∀ (n : Nat) (t : TypeId) (fuel : Nat) (cs : List Value) (x : DataW H × List MemPlace), plainT P n t = true → DataW.trod enc P w base spare held fuel t cs = some x →
    RdIs s (rdCells P n t x.1) cs ∧ cs.length = P.cellsOf t
  | 0, t, fuel, cs, x, hp, _ => by simp [plainT] at hp
  | n + 1, t, fuel, cs, x, hp, h => by
    unfold plainT at hp
    split at hp
    · rename_i k ht
      simp only [rdCells, ht]
      have hs : scalarT P t = true := by unfold scalarT; rw [ht]
      exact ⟨trod_scal hs h s, by rw [Nat.eq_of_beq_eq_true hp, ← (trod_scal hs h s).len]; rfl⟩
    · rename_i ht
      simp only [rdCells, ht]
      have hs : scalarT P t = true := by unfold scalarT; rw [ht]
      exact ⟨trod_scal hs h s, by rw [Nat.eq_of_beq_eq_true hp, ← (trod_scal hs h s).len]; rfl⟩
    · rename_i ht
      simp only [rdCells, ht]
      have hs : scalarT P t = true := by unfold scalarT; rw [ht]
      exact ⟨trod_scal hs h s, by rw [Nat.eq_of_beq_eq_true hp, ← (trod_scal hs h s).len]; rfl⟩
    · rename_i fs ht
      simp only [rdCells, ht]
      cases fuel with
      | zero => simp [DataW.trod] at h
      | succ m =>
        unfold DataW.trod at h
        simp only [ht] at h
        split at h
        · rename_i hl
          obtain ⟨xs, hxs, rfl⟩ := Option.map_eq_some_iff.1 h
          refine ⟨?_, hl⟩
          have key : ∀ (fl : List Field) (xs : List (DataW H × List MemPlace)) (k : Nat), plainGo P (plainT P n) fl k (P.cellsOf t) = true → k ≤ cs.length →
              fl.mapM (fun f => DataW.trod enc P w base spare held m f.type ((cs.drop f.offset).take (P.cellsOf f.type))) = some xs → RdIs s (rdGo (rdCells P n) fl (xs.map (·.1))) (cs.drop k) := by
            intro fl
            induction fl with
            | nil =>
              intro xs k hg hk hm
              simp at hm
              subst hm
              have : k = cs.length := by rw [hl]; exact Nat.eq_of_beq_eq_true (by simpa only [plainGo] using hg)
              subst this
              simp only [List.map_nil, rdGo, List.drop_length]
              exact RdIs.nil s
            | cons f fl ih =>
              intro xs k hg hk hm
              simp only [plainGo, Bool.and_eq_true] at hg
              obtain ⟨⟨ho, hpt⟩, hg⟩ := hg
              have ho := Nat.eq_of_beq_eq_true ho
              rw [List.mapM_cons] at hm
              cases hy : DataW.trod enc P w base spare held m f.type ((cs.drop f.offset).take (P.cellsOf f.type)) with
              | none => simp [hy] at hm
              | some y =>
                cases hys : fl.mapM (fun f => DataW.trod enc P w base spare held m f.type ((cs.drop f.offset).take (P.cellsOf f.type))) with
                | none => simp [hy, hys] at hm
                | some ys =>
                  simp [hy, hys] at hm
                  subst hm
                  obtain ⟨c1, l1⟩ := trod_cells s n f.type m _ y hpt hy
                  rw [ho] at c1 l1
                  simp only [List.length_take, List.length_drop] at l1
                  have c2 := ih ys (k + P.cellsOf f.type) hg (by omega) hys
                  have : cs.drop k = (cs.drop k).take (P.cellsOf f.type) ++ cs.drop (k + P.cellsOf f.type) := by
                    rw [← List.drop_drop, List.take_append_drop]
                  rw [this]
                  simp only [List.map_cons, rdGo]
                  exact c1.append c2
          have := key fs.toList xs 0 hp (Nat.zero_le _) hxs
          simpa using this
        · cases h
    · rename_i k e ht
      simp only [rdCells, ht]
      simp only [Bool.and_eq_true] at hp
      obtain ⟨⟨hpe, hk32⟩, hc⟩ := hp
      have hc := Nat.eq_of_beq_eq_true hc
      obtain ⟨xs, m, rfl, rfl, hl, hxl, hx⟩ := DataW.trod_array ht h
      refine ⟨?_, hl⟩
      simp only []
      have key : ∀ (i : Nat), i ≤ k → RdIs s (((xs.drop i).map (·.1)).flatMap fun x => rdCells P n e x) (cs.drop (i * P.cellsOf e)) := by
        intro i hi
        obtain ⟨d, hd⟩ : ∃ d, k - i = d := ⟨_, rfl⟩
        induction d generalizing i with
        | zero =>
          have hik : i = k := by omega
          subst hik
          rw [List.drop_eq_nil_of_le (by omega), List.drop_eq_nil_of_le (by rw [hl, hc]; exact Nat.le_refl _)]
          exact RdIs.nil s
        | succ d ih =>
          have hlt : i < xs.length := by omega
          have h1 := hx i (by omega)
          rw [List.getElem?_eq_getElem hlt] at h1
          obtain ⟨c1, l1⟩ := trod_cells s n e m _ _ hpe h1
          have c2 := ih (i + 1) (by omega) (by omega)
          rw [List.drop_eq_getElem_cons hlt]
          have : cs.drop (i * P.cellsOf e) = (cs.drop (i * P.cellsOf e)).take (P.cellsOf e) ++ cs.drop ((i + 1) * P.cellsOf e) := by
            rw [show (i + 1) * P.cellsOf e = i * P.cellsOf e + P.cellsOf e by rw [Nat.add_mul, Nat.one_mul], ← List.drop_drop, List.take_append_drop]
          rw [this]
          simp only [List.map_cons, List.flatMap_cons]
          exact c1.append c2
      have := key 0 (Nat.zero_le _)
      simpa using this
    · cases hp

/-- One value that is read. -/
theorem trod_rel (s : St) {n : Nat} {t : TypeId} {v : Value} {d : DataW H} {ps : List MemPlace} {r : Reach} {b0 : Nat} (hp : plainT P n t = true) (hval : Value.okWide P w r b0 t v) (h : DataW.Trod enc P w base spare held t v d ps) :
    Rel s (rdAV P n t d) v := by
  obtain ⟨fuel, h⟩ := h
  obtain ⟨hc, hl⟩ := trod_cells s n t fuel _ _ hp h
  unfold rdAV
  have scal : (∃ x, v.cells.toList = [x] ∧ v = x) → kindT P t = some false → Rel s (rowOf (kindT P t) (rdCells P n t d)) v := by
    rintro ⟨x, hx, rfl⟩ hk
    rw [hk]
    show Rel s ((rdCells P n t d).getD 0 .dead) v
    rw [hx] at hc
    have hlen := hc.len
    match hrc : rdCells P n t d, hlen with
    | [y], _ => exact hc.rel 0 y v (by simp [hrc]) rfl
  cases n with
  | zero => simp [plainT] at hp
  | succ n =>
    unfold plainT at hp
    split at hp
    · rename_i k ht
      obtain ⟨m, e1, _, _⟩ := DataW.trod_int ht h
      refine scal ⟨.int k m, e1, ?_⟩ (by unfold kindT; rw [ht])
      cases v <;> simp_all [Value.cells, Value.okWide, Cell.okWide, Cell.ok]
    · rename_i ht
      obtain ⟨m, e1, _⟩ := DataW.trod_bool ht h
      refine scal ⟨.bool m, e1, ?_⟩ (by unfold kindT; rw [ht])
      cases v <;> simp_all [Value.cells, Value.okWide, Cell.okWide, Cell.ok]
    · rename_i ht
      obtain ⟨m, e1, _, _⟩ := DataW.trod_string ht h
      refine scal ⟨.string m, e1, ?_⟩ (by unfold kindT; rw [ht])
      cases v <;> simp_all [Value.cells, Value.okWide, Cell.okWide, Cell.ok]
    · rename_i fs ht
      have hk : kindT P t = some true := by unfold kindT; rw [ht]
      rw [hk]
      unfold Value.okWide at hval
      rw [ht] at hval
      obtain ⟨cs, rfl, hsz, _⟩ := hval
      simp only [Value.cells] at hc
      exact .agg _ _ (by simpa using hc.len.symm) (fun c hcm => (hc.cell c hcm).1) (fun j x y hx hy => hc.rel j x y hx (by simpa using hy))
    · rename_i k e ht
      have hk : kindT P t = some true := by unfold kindT; rw [ht]
      rw [hk]
      unfold Value.okWide at hval
      rw [ht] at hval
      obtain ⟨cs, rfl, hsz, _⟩ := hval
      simp only [Value.cells] at hc
      exact .agg _ _ (by simpa using hc.len.symm) (fun c hcm => (hc.cell c hcm).1) (fun j x y hx hy => hc.rel j x y hx (by simpa using hy))
    · cases hp

/-- A slice of such values, read as data. -/
def rdSl {H : Type} (P : Program) (n : Nat) (e : TypeId) (d : DataW H) : AV := match d with
  | .slice elems _ => .lst (P.cellsOf e) false (elems.map fun x => rdAV P n e x)
  | _ => .lst (P.cellsOf e) true []

theorem rowOf_cells {k : Option Bool} {cs : List AV} (h : k = some true ∨ (cs.length = 1 ∧ ∀ c ∈ cs, isCell c = true)) : (rowOf k cs).cells = cs := by
  rcases h with rfl | ⟨h1, h2⟩
  · rfl
  · match cs, h1 with
    | [c], _ =>
      have hc := cell_cells (h2 c (by simp))
      unfold rowOf
      split
      · rfl
      · exact hc
theorem plain_kind {n : Nat} {t : TypeId} (hp : plainT P n t = true) : kindT P t = some true ∨ P.cellsOf t = 1 := by
  cases n with
  | zero => simp [plainT] at hp
  | succ n =>
    unfold plainT at hp
    split at hp
    · exact .inr (Nat.eq_of_beq_eq_true hp)
    · exact .inr (Nat.eq_of_beq_eq_true hp)
    · exact .inr (Nat.eq_of_beq_eq_true hp)
    · rename_i ht; exact .inl (by unfold kindT; rw [ht])
    · rename_i ht; exact .inl (by unfold kindT; rw [ht])
    · cases hp
theorem rdAV_cells (s : St) {n : Nat} {t : TypeId} {fuel : Nat} {cs : List Value} {x : DataW H × List MemPlace} (hp : plainT P n t = true) (h : DataW.trod enc P w base spare held fuel t cs = some x) :
    (rdAV P n t x.1).cells = rdCells P n t x.1 := by
  obtain ⟨h1, h2⟩ := trod_cells s n t fuel cs x hp h
  refine rowOf_cells ((plain_kind hp).imp id fun hc => ⟨by rw [h1.len, h2, hc], fun c hm => (h1.cell c hm).1⟩)
theorem refFree_cells {x : AV} (h : ∀ c ∈ x.cells, refFree c = true) : refFree x = true := by
  cases x with
  | agg cs => exact refFrees_all h
  | _ => exact h _ (by simp [AV.cells])
theorem ad_of {a : Addr} (h : a.spot = none) (k : Nat) : a.add k = ad a.block (a.off + k) := by
  obtain ⟨b, o, sp⟩ := a
  simp only at h
  subst h
  unfold Addr.add ad
  split
  · rename_i h; subst h; rfl
  · rfl

theorem trodSl_rel {n : Nat} {t e : TypeId} {v : Value} {d : DataW H} {ps : List MemPlace} {r : Reach} {b0 : Nat} (ht : P.underlying t = some (.slice e)) (hp : plainT P n e = true) (hpos : P.cellsOf e ≠ 0)
    (hval : Value.okWide P w r b0 t v) (h : DataW.Trod enc P w base spare held t v d ps) : Rel (St.init w) (rdSl P n e d) v := by
  obtain ⟨fuel, h⟩ := h
  have hv : Cell.ok P w r b0 t v := by
    unfold Value.okWide at hval
    rw [ht] at hval
    unfold Cell.okWide at hval
    rw [ht] at hval
    exact hval
  have hcells : ∃ y, v.cells.toList = [y] ∧ v = y := by
    unfold Cell.ok at hv
    rw [ht] at hv
    cases v <;> first | exact ⟨_, rfl, rfl⟩ | exact hv.elim
  obtain ⟨y, hy, rfl⟩ := hcells
  rcases DataW.trod_slice ht h with ⟨h1, h2⟩ | ⟨a, len, cap, elems, rest, m, rfl, h1, h2, hb, hlc, _, hel, hget, _, _⟩
  · rw [hy] at h1
    simp only [List.cons.injEq, and_true] at h1
    subst h1
    simp only [Prod.mk.injEq] at h2
    rw [h2.1]
    exact .nil _
  · rw [hy] at h1
    simp only [List.cons.injEq, and_true] at h1
    subst h1
    simp only [Prod.mk.injEq] at h2
    rw [h2.1]
    unfold Cell.ok at hv
    rw [ht] at hv
    obtain ⟨_, _, hhas⟩ := hv
    have hspot : a.spot = none := hhas.2.1
    have hrow : ∀ i, i < len → ∃ cs x, elems[i]? = some x ∧ DataW.trod enc P w base spare held m e cs = some x ∧ cs.length = P.cellsOf e ∧ ∀ j, j < P.cellsOf e → w.cell? (ad a.block (a.off + i * P.cellsOf e + j)) = cs[j]? := by
      intro i hi
      have h3 := hget i hi
      have hlt : i < elems.length := by omega
      rw [List.getElem?_eq_getElem hlt] at h3
      obtain ⟨cs, hcs, htr⟩ := Option.bind_eq_some_iff.1 h3
      refine ⟨cs, _, List.getElem?_eq_getElem hlt, htr, ?_, fun j hj => ?_⟩
      · unfold World.cells? at hcs
        split at hcs
        · simpa using mapM_some_length hcs
        · cases hcs
      · unfold World.cells? at hcs
        split at hcs
        · have := mapM_some_get hcs j j (by simp [hj])
          rw [ad_of hspot] at this
          rw [← this]
          rw [ad_of (a := ad a.block (a.off + i * P.cellsOf e)) rfl]
          rfl
        · cases hcs
    have hlen : ((elems.map (·.1)).map fun x => rdAV P n e x).length = len := by simp [hel]
    have hmem : ∀ q ∈ (elems.map (·.1)).map fun x => rdAV P n e x, ∃ cs x, q = rdAV P n e x.1 ∧ DataW.trod enc P w base spare held m e cs = some x ∧ cs.length = P.cellsOf e := by
      intro q hq
      simp only [List.mem_map] at hq
      obtain ⟨_, ⟨x, hx, rfl⟩, rfl⟩ := hq
      obtain ⟨i, hi⟩ := List.getElem?_of_mem hx
      obtain ⟨cs, x2, h4, h5, h6, _⟩ := hrow i (by rw [← hel]; exact (List.getElem?_eq_some_iff.1 hi).1)
      rw [hi] at h4
      cases h4
      exact ⟨cs, x, rfl, h5, h6⟩
    have hpriv : ((elems.map (·.1)).map fun x => rdAV P n e x) ≠ [] → a.block < (St.init w).w.heap.size ∧ ¬ (St.init w).Priv a.block := by
      intro hne
      have h0 : 0 < len := by rw [← hlen]; exact List.length_pos_iff.2 hne
      obtain ⟨cs, x, _, _, hl, hc⟩ := hrow 0 h0
      have h1 := hc 0 (by omega)
      rw [List.getElem?_eq_getElem (by omega)] at h1
      exact ⟨cell_block h1, St.init_priv w _⟩
    have hres := Rel.lst (s := St.init w) (P.cellsOf e) ((elems.map (·.1)).map fun x => rdAV P n e x) a.block a.off cap (fun i j => (w.cell? (ad a.block (a.off + i * P.cellsOf e + j))).getD undef) (by omega) hpriv
      (fun q hq => by
        obtain ⟨cs, x, rfl, htr, hl⟩ := hmem q hq
        rw [rdAV_cells (St.init w) hp htr, (trod_cells (St.init w) n e m _ _ hp htr).1.len, hl])
      (fun q hq => by
        obtain ⟨cs, x, rfl, htr, hl⟩ := hmem q hq
        refine refFree_cells fun c hc => ?_
        rw [rdAV_cells (St.init w) hp htr] at hc
        exact ((trod_cells (St.init w) n e m _ _ hp htr).1.cell c hc).2)
      (fun q hq c hc => by
        obtain ⟨cs, x, rfl, htr, hl⟩ := hmem q hq
        rw [rdAV_cells (St.init w) hp htr] at hc
        exact ((trod_cells (St.init w) n e m _ _ hp htr).1.cell c hc).1)
      (fun i j hi hj => by
        obtain ⟨cs, x, _, _, hl, hc⟩ := hrow i (by omega)
        have h1 := hc j hj
        rw [List.getElem?_eq_getElem (by omega)] at h1
        show w.cell? _ = _
        rw [h1]; rfl)
      (fun i j q z hq hz => by
        have hi : i < len := by rw [← hlen]; exact (List.getElem?_eq_some_iff.1 hq).1
        obtain ⟨cs, x, h4, htr, hl, hc⟩ := hrow i hi
        simp only [List.getElem?_map, h4, Option.map_some, Option.some.injEq] at hq
        subst hq
        rw [rdAV_cells (St.init w) hp htr] at hz
        have hR := (trod_cells (St.init w) n e m _ _ hp htr).1
        have hj : j < P.cellsOf e := by rw [← hl, ← hR.len]; exact (List.getElem?_eq_some_iff.1 hz).1
        have h1 := hc j hj
        rw [List.getElem?_eq_getElem (by omega)] at h1
        rw [h1]
        exact hR.rel j z _ hz (List.getElem?_eq_getElem (by omega)))
    rw [hlen] at hres
    show Rel _ (.lst (P.cellsOf e) false ((elems.map (·.1)).map fun x => rdAV P n e x)) _
    obtain ⟨b, o, sp⟩ := a
    simp only at hspot
    subst hspot
    exact hres

/-- What a leaf's look says of a cell. -/
def leafIs : Sh → AV → Prop
  | .int k, c => ∃ n, c = .v (.int k n) ∧ (Lit.int k n).wf = true
  | .bool, c => ∃ b, c = .v (.bool b)
  | .str, c => ∃ s : ByteArray, c = .v (.string s) ∧ s.size ≤ maxLen
  | _, _ => True
def fitL : List Sh → List AV → Prop
  | [], [] => True
  | s :: ss, c :: cs => leafIs s c ∧ fitL ss cs
  | _, _ => False
theorem fitL_cons {s : Sh} {ss : List Sh} {l : List AV} (h : fitL (s :: ss) l) : ∃ c cs, l = c :: cs ∧ leafIs s c ∧ fitL ss cs := by
  cases l with
  | nil => exact h.elim
  | cons c cs => exact ⟨c, cs, rfl, h.1, h.2⟩
theorem fitL_nil {l : List AV} (h : fitL [] l) : l = [] := by
  cases l with
  | nil => rfl
  | cons c cs => exact h.elim
theorem fitL_append : ∀ {a b : List Sh} {x y : List AV}, fitL a x → fitL b y → fitL (a ++ b) (x ++ y)
  | [], _, [], _, _, h => h
  | [], _, _ :: _, _, h, _ => h.elim
  | _ :: _, _, [], _, h, _ => h.elim
  | _ :: _, _, _ :: _, _, h, h' => ⟨h.1, fitL_append h.2 h'⟩

theorem trod_fit : ∀ (n : Nat) (t : TypeId) (fuel : Nat) (cs : List Value) (x : DataW H × List MemPlace), plainT P n t = true → DataW.trod enc P w base spare held fuel t cs = some x →
    fitL (shOf P n t).cells (rdCells P n t x.1)
  | 0, t, fuel, cs, x, hp, _ => by simp [plainT] at hp
  | n + 1, t, fuel, cs, x, hp, h => by
    unfold plainT at hp
    split at hp
    · rename_i k ht
      simp only [rdCells, shOf, ht]
      obtain ⟨m, _, e, hw⟩ := DataW.trod_int ht h
      rw [e]
      exact ⟨⟨m, rfl, hw⟩, trivial⟩
    · rename_i ht
      simp only [rdCells, shOf, ht]
      obtain ⟨m, _, e⟩ := DataW.trod_bool ht h
      rw [e]
      exact ⟨⟨m, rfl⟩, trivial⟩
    · rename_i ht
      simp only [rdCells, shOf, ht]
      obtain ⟨m, _, e, hw⟩ := DataW.trod_string ht h
      rw [e]
      exact ⟨⟨m, rfl, hw⟩, trivial⟩
    · rename_i fs ht
      simp only [rdCells, shOf, ht]
      cases fuel with
      | zero => simp [DataW.trod] at h
      | succ m =>
        unfold DataW.trod at h
        simp only [ht] at h
        split at h
        · obtain ⟨xs, hxs, rfl⟩ := Option.map_eq_some_iff.1 h
          have key : ∀ (fl : List Field) (xs : List (DataW H × List MemPlace)) (k c : Nat), plainGo P (plainT P n) fl k c = true →
              fl.mapM (fun f => DataW.trod enc P w base spare held m f.type ((cs.drop f.offset).take (P.cellsOf f.type))) = some xs → fitL (fl.flatMap fun f => (shOf P n f.type).cells) (rdGo (rdCells P n) fl (xs.map (·.1))) := by
            intro fl
            induction fl with
            | nil =>
              intro xs k c _ hm
              simp at hm
              subst hm
              simp [rdGo, fitL]
            | cons f fl ih =>
              intro xs k c hg hm
              simp only [plainGo, Bool.and_eq_true] at hg
              obtain ⟨⟨ho, hpt⟩, hg⟩ := hg
              rw [List.mapM_cons] at hm
              cases hy : DataW.trod enc P w base spare held m f.type ((cs.drop f.offset).take (P.cellsOf f.type)) with
              | none => simp [hy] at hm
              | some y =>
                cases hys : fl.mapM (fun f => DataW.trod enc P w base spare held m f.type ((cs.drop f.offset).take (P.cellsOf f.type))) with
                | none => simp [hy, hys] at hm
                | some ys =>
                  simp [hy, hys] at hm
                  subst hm
                  simp only [List.flatMap_cons, List.map_cons, rdGo]
                  exact fitL_append (trod_fit n f.type m _ y hpt hy) (ih ys _ _ hg hys)
          exact key fs.toList xs _ _ hp hxs
        · cases h
    · rename_i k e ht
      simp only [rdCells, shOf, ht]
      simp only [Bool.and_eq_true] at hp
      obtain ⟨⟨hpe, hk32⟩, hc⟩ := hp
      obtain ⟨xs, m, rfl, rfl, hl, hxl, hx⟩ := DataW.trod_array ht h
      have key : ∀ (l : List (DataW H × List MemPlace)), (∀ y ∈ l, ∃ cs, DataW.trod enc P w base spare held m e cs = some y) → fitL ((List.replicate l.length (shOf P n e).cells).flatten) ((l.map (·.1)).flatMap fun x => rdCells P n e x) := by
        intro l
        induction l with
        | nil => intro _; exact trivial
        | cons y l ih =>
          intro hl
          obtain ⟨cs', h'⟩ := hl y List.mem_cons_self
          simp only [List.length_cons, List.replicate_succ, List.flatten_cons, List.map_cons, List.flatMap_cons]
          exact fitL_append (trod_fit n e m _ y hpe h') (ih fun z hz => hl z (List.mem_cons_of_mem _ hz))
      have := key xs fun y hy => by
        obtain ⟨i, hi⟩ := List.getElem?_of_mem hy
        have hlt := (List.getElem?_eq_some_iff.1 hi).1
        exact ⟨_, (hx i (by omega)).trans hi⟩
      rw [hxl] at this
      rw [hk32]
      exact this
    · cases hp

theorem Trod_fit {n : Nat} {t : TypeId} {v : Value} {d : DataW H} {ps : List MemPlace} (hp : plainT P n t = true) (h : DataW.Trod enc P w base spare held t v d ps) : fitL (shOf P n t).cells (rdCells P n t d) := by
  obtain ⟨fuel, h⟩ := h
  exact trod_fit n t fuel _ _ hp h

/-- What a slice that is read holds. -/
theorem trodSl_fit {n : Nat} {t e : TypeId} {v : Value} {d : DataW H} {ps : List MemPlace} (ht : P.underlying t = some (.slice e)) (hp : plainT P n e = true) (h : DataW.Trod enc P w base spare held t v d ps) :
    rdSl P n e d = .lst (P.cellsOf e) true [] ∨ ∃ elems : List (DataW H), rdSl P n e d = .lst (P.cellsOf e) false (elems.map fun x => rdAV P n e x) ∧ ∀ x ∈ elems, fitL (shOf P n e).cells (rdCells P n e x) := by
  obtain ⟨fuel, h⟩ := h
  rcases DataW.trod_slice ht h with ⟨_, h2⟩ | ⟨a, len, cap, elems, rest, m, rfl, _, h2, _, _, _, hel, hget, _, _⟩
  · simp only [Prod.mk.injEq] at h2
    rw [h2.1]
    exact .inl rfl
  · simp only [Prod.mk.injEq] at h2
    rw [h2.1]
    refine .inr ⟨elems.map (·.1), rfl, fun x hx => ?_⟩
    simp only [List.mem_map] at hx
    obtain ⟨y, hy, rfl⟩ := hx
    obtain ⟨i, hi⟩ := List.getElem?_of_mem hy
    have hlt := (List.getElem?_eq_some_iff.1 hi).1
    have h3 := hget i (by omega)
    rw [hi] at h3
    obtain ⟨cs, _, htr⟩ := Option.bind_eq_some_iff.1 h3
    exact trod_fit n e m cs y hp htr

theorem rels_nil (s : St) : Rels s [] #[] := ⟨rfl, by simp⟩
theorem rels_1 {s : St} {a : AV} {x : Value} (h : Rel s a x) : Rels s [a] #[x] := ⟨rfl, fun j u v hu hv => by
  match j with
  | 0 => simp at hu hv; subst hu; subst hv; exact h
  | j + 1 => simp at hu⟩
theorem rels_2 {s : St} {a b : AV} {x y : Value} (h : Rel s a x) (h2 : Rel s b y) : Rels s [a, b] #[x, y] := ⟨rfl, fun j u v hu hv => by
  match j with
  | 0 => simp at hu hv; subst hu; subst hv; exact h
  | 1 => simp at hu hv; subst hu; subst hv; exact h2
  | j + 2 => simp at hu⟩
theorem rels_3 {s : St} {a b c : AV} {x y z : Value} (h : Rel s a x) (h2 : Rel s b y) (h3 : Rel s c z) : Rels s [a, b, c] #[x, y, z] := ⟨rfl, fun j u v hu hv => by
  match j with
  | 0 => simp at hu hv; subst hu; subst hv; exact h
  | 1 => simp at hu hv; subst hu; subst hv; exact h2
  | 2 => simp at hu hv; subst hu; subst hv; exact h3
  | j + 3 => simp at hu⟩

theorem trodAll_stays {W W' : World} {sp' : Nat → Bool} (hl : laidOutB P = true) : ∀ {ts : List TypeId} {vs : List Value} {ds : List (DataW H)} {ps : List MemPlace},
    (∀ t ∈ ts, P.readableRec t = true ∧ t < P.types.size) → DataW.TrodAll enc P W 0 (fun _ => true) true ts vs ds ps → (∀ p ∈ ps, W.sameAt W' p) → (∀ p ∈ ps, sp' p.block = true) →
    DataW.TrodAll enc P W' 0 sp' true ts vs ds ps
  | [], _, _, _, _, h, _, _ => by
    obtain ⟨rfl, rfl, rfl⟩ := trodAll_nil h
    exact trodAll_mk0
  | t :: ts, _, _, _, ht, h, hs, hb => by
    obtain ⟨v, vs', d, ds', p, q, rfl, rfl, rfl, h1, h2⟩ := trodAll_cons h
    refine ⟨p, q, WideElems.Trod_stays hl (ht t List.mem_cons_self).1 (ht t List.mem_cons_self).2 h1 (fun x hx => hs x (List.mem_append_left _ hx)) (fun x hx => hb x (List.mem_append_left _ hx)), ?_, rfl⟩
    exact trodAll_stays hl (fun t ht' => ht t (List.mem_cons_of_mem _ ht')) h2 (fun x hx => hs x (List.mem_append_right _ hx)) (fun x hx => hb x (List.mem_append_right _ hx))

/-- What is left as it was below the heap's old size. -/
structure KeptBelow (W W' : World) : Prop where
  os : W'.os = W.os
  output : W'.output = W.output
  size : W.heap.size ≤ W'.heap.size
  block : ∀ k, k < W.heap.size → W'.heap[k]? = W.heap[k]?

/-- A law that answers true and leaves what there was: its row's end. -/
theorem law_post {f : Func} {s : ChangeSpec} {apart fresh handsOn again : Bool} {W W' : World} {args : Array Value} {ds gs : List (DataW H)} {before : List MemPlace} {tb : TypeId}
    (hl : laidOutB P = true) (hp : ∀ t ∈ f.params.toList, P.readableRec t = true ∧ t < P.types.size) (hr : f.resultTypes = #[tb]) (hb : P.underlying tb = some .bool) (hv : s.vars = []) (hgs : gs = [])
    (hfn : s.fn H ds = { results := [.lit (.bool true)], args := ds })
    (hW : DataW.Whole enc P f.params.toList s.vars apart W args.toList ds gs before) (hk : KeptBelow W W') : s.post enc P f apart fresh handsOn again W args (.bool true) W' := by
  subst hgs
  have hres : ∀ (b : Nat) (sp : Nat → Bool) (hd : Bool), DataW.TrodAll enc P W' b sp hd f.resultTypes.toList ((Value.bool true).resultList f.resultTypes.size) (s.fn H (ds ++ [])).results [] := by
    intro b sp hd
    rw [List.append_nil, hfn, hr]
    exact trodAll_mk1 (shut_bool hb true)
  have hlt := hW.lt
  have hW0 := hW
  obtain ⟨p, q, hA, hV, rfl, hfz, hnd⟩ := hW
  rw [hv] at hV
  obtain ⟨_, rfl⟩ := trodVars_none hV
  simp only [List.append_nil] at hlt hW0 hfz hnd
  have hbel : RowKit.Below W.heap.size W { W' with tape := W.tape } := ⟨hk.os, rfl, hk.output, hk.size, hk.block⟩
  have hsame : ∀ x ∈ p, W.sameAt W' x := fun x hx => hbel.same (hlt x hx)
  have hargs : ∀ sp : Nat → Bool, (∀ x ∈ p, sp x.block = true) → DataW.TrodAll enc P W' 0 sp true f.params.toList args.toList (s.fn H (ds ++ [])).args p := by
    intro sp hsp
    rw [List.append_nil, hfn]
    exact trodAll_stays hl hp hA hsame hsp
  have hvars : ∀ sp : Nat → Bool, DataW.TrodVars enc P W' sp s.vars (s.fn H (ds ++ [])).vars [] := by
    intro sp
    rw [List.append_nil, hfn, hv]
    rfl
  have hold : ∀ x ∈ p, (fun b => decide (b < W.heap.size)) x.block = true := fun x hx => by simpa using hlt x hx
  have hkept : ∀ may : MemPlace → Prop, W.keptBut W' may := fun may => hbel.frame may
  refine ⟨ds, [], p, [], p, [], hW0, hres _ _ _, hargs _ hold, hvars _, hkept _, fun _ => ⟨ok_one hr rfl (okWide_bool_mk hb _), _, _, p, ⟨p, [], trodAll_append (hargs _ (fun _ _ => rfl)) (hres _ _ _), hvars _, by simp, ?_, fun ha => hnd ha⟩, fun x hx _ => hx⟩⟩
  intro b off hx
  have := hfz b off hx
  have hb2 := hlt _ hx
  simp only [World.frozen?] at this ⊢
  rw [hk.block b hb2]
  exact this

theorem laidVars_mem {n : String} {d : DataW Unit} : ∀ {laid : List (String × DataW Unit)} {ps : List MemPlace}, DataW.LaidVars P w laid ps → (n, d) ∈ laid →
    ∃ g t cs fuel p, P.globalNamed n = some g ∧ (P.globals[g]?).map (·.type) = some t ∧ w.var? P n = some cs ∧ DataW.trod (fun _ => ()) P w 0 (fun _ => true) false fuel t cs.toList = some (d, p)
  | [], _, _, hm => by cases hm
  | (m, e) :: r, ps, h, hm => by
    obtain ⟨g, t, cs, fuel, p, q, h1, h2, h3, h4, h5, _⟩ := h
    rcases List.mem_cons.1 hm with hm | hm
    · cases hm
      exact ⟨g, t, cs, fuel, p, h1, h2, h3, h4⟩
    · exact laidVars_mem h5 hm

/-- A listed variable. -/
theorem glob_rel {W : World} {laid : List (String × DataW Unit)} (h : laidMet P laid W) {n : String} {d : DataW Unit} (hm : (n, d) ∈ laid) {g : Nat} {t : TypeId} {k : Nat} (hg : P.globalNamed n = some g) (ht : (P.globals[g]?).map (·.type) = some t)
    (hp : plainT P k t = true) {cells : List AV} (hc : rdCells P k t d = cells) : GlobOk (St.init W) g (.agg cells) := by
  obtain ⟨ps, hl, _⟩ := h
  obtain ⟨g', t', cs, fuel, p, h1, h2, h3, h4⟩ := laidVars_mem hl hm
  obtain rfl := Option.some.inj (hg.symm.trans h1)
  obtain rfl := Option.some.inj (ht.symm.trans h2)
  obtain ⟨hR, hlen⟩ := trod_cells (St.init W) k t fuel _ _ hp h4
  simp only [hc] at hR
  have hlen2 : cells.length = cs.size := by rw [hR.len]; simp
  refine ⟨?_, ?_⟩
  case refine_2 =>
    unfold World.var? at h3
    rw [hg] at h3
    simp only [Option.bind_some] at h3
    split at h3
    · rename_i c0 ty0 fr0 hb
      cases h3
      exact ⟨_, _, _, hb, hlen2.symm⟩
    · cases h3
  refine .pl (.agg cells) 0 g 0 (fun j => cs[j]?.getD undef) ?_ (St.init_priv W g) ?_ (fun c hcm => (hR.cell c hcm).1) ?_ ?_
  · unfold World.var? at h3
    rw [hg] at h3
    simp only [Option.bind_some] at h3
    split at h3
    · rename_i hb
      exact (Array.getElem?_eq_some_iff.1 hb).1
    · cases h3
  · show refFrees cells = true
    have : ∀ l : List AV, (∀ c ∈ l, refFree c = true) → refFrees l = true := by
      intro l
      induction l with
      | nil => intro _; rfl
      | cons a l ih => intro hl; simp only [refFrees, Bool.and_eq_true]; exact ⟨hl a List.mem_cons_self, ih fun c hc => hl c (List.mem_cons_of_mem _ hc)⟩
    exact this _ fun c hcm => (hR.cell c hcm).2
  · intro j hj
    have hj : j < cells.length := hj
    have := World.var?_cell hg h3 (0 + j)
    show W.cell? ⟨g, 0 + j, none⟩ = _
    rw [this, Nat.zero_add, Array.getElem?_eq_getElem (by omega)]
    simp
  · intro j y hy
    have hy : cells[j]? = some y := hy
    have hj := (List.getElem?_eq_some_iff.1 hy).1
    exact hR.rel j y _ hy (by simp [Array.getElem?_eq_getElem (show j < cs.size by omega)])

/-- A listed variable of one cell, whatever it holds. -/
def ifaceB (P : Program) (t : TypeId) : Bool := match P.underlying t with
  | some (.interface _) => true
  | _ => false
theorem glob_junk {W : World} {laid : List (String × DataW Unit)} (h : laidMet P laid W) {n : String} {d : DataW Unit} (hm : (n, d) ∈ laid) {g : Nat} {t : TypeId} (hg : P.globalNamed n = some g) (ht : (P.globals[g]?).map (·.type) = some t)
    (hi : ifaceB P t = true) : GlobOk (St.init W) g .junk := by
  obtain ⟨ps, hl, _⟩ := h
  obtain ⟨g', t', cs, fuel, p, h1, h2, h3, h4⟩ := laidVars_mem hl hm
  obtain rfl := Option.some.inj (hg.symm.trans h1)
  obtain rfl := Option.some.inj (ht.symm.trans h2)
  obtain ⟨ms, hu⟩ : ∃ ms, P.underlying t = some (.interface ms) := by
    unfold ifaceB at hi
    split at hi
    · exact ⟨_, ‹_›⟩
    · cases hi
  have hcs : ∃ v, cs.toList = [v] ∧ one v := by
    cases fuel with
    | zero => simp [DataW.trod] at h4
    | succ m =>
      unfold DataW.trod at h4
      rw [hu] at h4
      split at h4 <;> first | (simp_all; done) | (simp_all; rfl)
  obtain ⟨v, hcs, hv⟩ := hcs
  have hcell : W.cell? (ad g 0) = some v := by
    have := World.var?_cell hg h3 0
    show W.cell? ⟨g, 0, none⟩ = _
    rw [this, ← Array.getElem?_toList, hcs]; rfl
  refine ⟨?_, ?_⟩
  case refine_2 =>
    unfold World.var? at h3
    rw [hg] at h3
    simp only [Option.bind_some] at h3
    split at h3
    · rename_i c0 ty0 fr0 hb
      cases h3
      exact ⟨_, _, _, hb, by rw [← Array.length_toList, hcs]; rfl⟩
    · cases h3
  refine .pl .junk 0 g 0 (fun _ => v) (cell_block hcell) (St.init_priv W g) rfl (fun c hc => by simp only [AV.cells, List.mem_singleton] at hc; subst hc; rfl) (fun j hj => ?_) (fun j y hy => ?_)
  · have hj : j = 0 := by simp only [AV.cells, List.length_singleton] at hj; omega
    subst hj
    exact hcell
  · have hj : j = 0 := by have := (List.getElem?_eq_some_iff.1 hy).1; simp only [AV.cells, List.length_singleton] at this; omega
    subst hj
    simp [AV.cells] at hy
    subst hy
    exact .junk _ hv
end
end Go.Ab
