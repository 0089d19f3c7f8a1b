import Derived.Test.YtkkbdebmilagoaaGreatDoorSeQ
import Derived.Test.YtkkbdebmilagoaaGreatDoorToldM
import Derived.Test.YtkkbdebmilagoaaGreatDoorShelf
set_option linter.unusedVariables false
set_option linter.unusedSimpArgs false
set_option maxRecDepth 100000
namespace Go.Proofs.YtkkbdebmilagoaaGreatDoor
/- small, Has, Ints. -/
open Go Go.Ab Go.RowKit

def lowU (b : UInt8) : UInt8 := if 65 ≤ b.toNat ∧ b.toNat ≤ 90 then UInt8.ofNat (b.toNat + 32) else b
theorem lowU_toNat (b : UInt8) : (lowU b).toNat = if 65 ≤ b.toNat ∧ b.toNat ≤ 90 then b.toNat + 32 else b.toNat := by
  unfold lowU
  split
  · rename_i h
    simp only [UInt8.toNat_ofNat']
    omega
  · rfl
theorem lowU_low (b : UInt8) : lowU (lowU b) = lowU b := by
  refine UInt8.toNat_inj.1 ?_
  rw [lowU_toNat (lowU b), lowU_toNat b]
  by_cases h : 65 ≤ b.toNat ∧ b.toNat ≤ 90
  · rw [if_pos h, if_neg (by omega)]
  · rw [if_neg h, if_neg h]
theorem w8_idm {n : Int} (h1 : 0 ≤ n) (h2 : n < 256) : w8 n = n := by
  unfold w8 IntKind.wrap
  simp [IntKind.bits, IntKind.signed]
  omega
theorem map_low {l : List UInt8} (h : ∀ b ∈ l, lowU b = b) : l.map lowU = l := by
  induction l with
  | nil => rfl
  | cons b l ih => rw [List.map_cons, h b List.mem_cons_self, ih fun c hc => h c (List.mem_cons_of_mem _ hc)]
structure SmS where
  l : List UInt8
  i : Nat
def SmS.enc (q : SmS) : Ssearch_small_0 := .s0 q.l.length q.i (uvs q.l)
def SmS.P (q : SmS) : Prop := q.i ≤ q.l.length ∧ q.l.length ≤ 1000000000 ∧ ∀ b ∈ q.l.take q.i, lowU b = b
def SmS.out (q : SmS) : Osearch_small_0 := .x0 (uvs (q.l.map lowU))
theorem l_small {K : PureK} {q : SmS} (h : q.P) : loopF (Rsearch_small_0 K some) SmS.enc SmS.P SmS.out q.enc = some q.out := by
  refine loopF_eq (enc := SmS.enc) (fun q => q.l.length - q.i) (fun q rec hP hrec => ?_) (fun a b h => ?_) h
  · obtain ⟨l, i⟩ := q
    obtain ⟨h1, h2, h3⟩ := hP
    simp only [] at h1 h2 h3
    rw [show SmS.enc ⟨l, i⟩ = .s0 l.length i (uvs l) from rfl]
    simp only [Rsearch_small_0, SmS.out, uvs_len]
    by_cases hi : i < l.length
    · rw [br_yesD (p := (i : Int) < (l.length : Int)) (by omega), br_yesD (p := 0 ≤ (i : Int)) (by omega), br_yesD (p := (i : Int) < (l.length : Int)) (by omega)]
      rw [show ((i : Int)).toNat = i from rfl, Nat.zero_add, uvs_get l i hi]
      simp only [optK_s, asInt_v]
      generalize hb : l[i] = b
      have hset : l.map lowU = (l.set i (lowU b)).map lowU := by
        rw [List.map_set, lowU_low]
        have : lowU b = (l.map lowU)[i]'(by simpa using hi) := by simp [hb]
        rw [this, List.set_getElem_self]
      have hnext : lowU b = lowU b → SmS.P ⟨l.set i (lowU b), i + 1⟩ := fun _ => by
        refine ⟨by simp; omega, by simpa using h2, fun c hc => ?_⟩
        rw [List.take_add_one] at hc
        rcases List.mem_append.1 hc with hc | hc
        · rw [List.take_set_of_le (Nat.le_refl _)] at hc
          exact h3 c hc
        · simp [hi] at hc
          subst hc
          exact lowU_low b
      have hrun : ∀ l', l' = l.set i (lowU b) → rec (.s0 (l.length : Nat) (w64 ((i : Int) + 1)) (uvs l')) = some (.x0 (uvs (l.map lowU))) := fun l' hl' => by
        subst hl'
        rw [w64_id (n := (i : Int) + 1) (by omega) (by omega), hset]
        have := hrec ⟨l.set i (lowU b), i + 1⟩ (hnext rfl) (by simp; omega)
        simp only [SmS.enc, List.length_set, SmS.out] at this
        exact this
      have hb8 := UInt8.toNat_lt b
      by_cases h65 : 65 ≤ b.toNat
      · rw [br_yesD (p := (b.toNat : Int) ≥ 65) (by omega)]
        simp only [optK_s, asBool_v]
        by_cases h90 : b.toNat ≤ 90
        · rw [br_yesD (p := (b.toNat : Int) ≤ 90) (by omega), br_yesD (p := 0 ≤ (i : Int)) (by omega), br_yesD (p := (i : Int) < (l.length : Int)) (by omega)]
          have e1 : w8 (w8 ((b.toNat : Int) + 97) - 65) = ((lowU b).toNat : Int) := by
            rw [lowU_toNat, if_pos ⟨h65, h90⟩, w8_idm (n := (b.toNat : Int) + 97) (by omega) (by omega), w8_idm (by omega) (by omega)]
            omega
          rw [e1]
          have e2 : (uvs l).set i (uv ((lowU b).toNat : Int)) = uvs (l.set i (lowU b)) := by simp [uvs, List.map_set]
          rw [e2]
          exact hrun _ rfl
        · rw [br_noD (p := (b.toNat : Int) ≤ 90) (by omega)]
          refine hrun l ?_
          rw [show lowU b = b by unfold lowU; rw [if_neg (by omega)], ← hb, List.set_getElem_self]
      · rw [br_noD (p := (b.toNat : Int) ≥ 65) (by omega)]
        simp only [optK_s, asBool_v]
        refine hrun l ?_
        rw [show lowU b = b by unfold lowU; rw [if_neg (by omega)], ← hb, List.set_getElem_self]
    · rw [br_noD (by omega), map_low (l := l)]
      have : i = l.length := by omega
      subst this
      simpa using h3
  · obtain ⟨a1, a2⟩ := a
    obtain ⟨b1, b2⟩ := b
    simp [SmS.enc, uvs_inj_iff] at h
    obtain ⟨_, _, rfl⟩ := h
    rfl
noncomputable abbrev E_small := callF X f_search_small (fun l : List UInt8 => [sv (bs l)]) (fun l => l.length ≤ 1000000000) (fun l => sv (bs (l.map lowU)))
theorem k_small {T : Tab} (hT : tabK T f_search_small = E_small) {l : List UInt8} (h : l.length ≤ 1000000000) : tabK T f_search_small [sv (bs l)] = some (sv (bs (l.map lowU))) := by
  rw [hT]
  refine callF_eq (enc := fun l : List UInt8 => [sv (bs l)]) (fun l hl => ?_) (fun a b h => ?_) (a := l) h
  · refine pcsearch_small ok_nil (fun s o h => loopF_ok (enc := SmS.enc) (P := SmS.P) (f := SmS.out) s o h) ?_
    unfold Rsearch_small
    rw [bytesRows_uvs, uvs_len, show Ssearch_small_0.s0 ((l.length : Nat) : Int) 0 (uvs l) = SmS.enc ⟨l, 0⟩ from rfl, l_small (q := ⟨l, 0⟩) ⟨Nat.zero_le _, hl, by simp⟩]
    simp only [optK_s, SmS.out, Osearch_small_0.k, rowsBytes_uvs, mk_bs]
  · simp [sv, bs_inj_iff] at h
    rw [h]
section
variable {m : Int}
noncomputable abbrev E_Contains (m : Int) := callF (XM m) f_strings_Contains (fun q : List UInt8 × List UInt8 => [sv (bs q.1), sv (bs q.2)]) (fun q => q.1.length < 4294967281) (fun q => bv (Lib.contains q.1 q.2))
theorem two_inj {a b : List UInt8 × List UInt8} (h : [sv (bs a.1), sv (bs a.2)] = [sv (bs b.1), sv (bs b.2)]) : a = b := by
  obtain ⟨a1, a2⟩ := a
  obtain ⟨b1, b2⟩ := b
  simp [sv, bs_inj_iff] at h
  rw [h.1, h.2]
theorem k_Contains {T : Tab} (hT : tabK T f_strings_Contains = E_Contains m) {a b : List UInt8} (h : a.length < 4294967281) : tabK T f_strings_Contains [sv (bs a), sv (bs b)] = some (bv (Lib.contains a b)) := by
  rw [hT]
  refine callF_eq (enc := fun q : List UInt8 × List UInt8 => [sv (bs q.1), sv (bs q.2)]) (fun q hq => ?_) (fun a b h => ?_) (a := (a, b)) h
  · refine pure_of_calls (fn := Tryz.f18) (c := _) Tryz.func18 rfl (by kernel_rfl) rfl fun s hok hH cs hr => ?_
    obtain rfl := rels_v2 hr
    obtain ⟨v, hv, hrel⟩ := hok.cell (g := 0) (x := iv m) rfl rfl
    obtain ⟨rfl, _⟩ := hrel.v_inv
    refine (Tryz.strings_Contains (bs q.1) (bs q.2) m s.w (by rw [bs_size]; exact hq) hv).mono ?_
    rintro e w' ⟨rfl, rfl⟩
    rw [bs_list, bs_list]
    exact ⟨_, rfl, Past.refl _ _, .v _ rfl⟩
  · rw [two_inj h]
noncomputable def tbHas (m : Int) : Tab := [(f_search_small, E_small), (f_strings_Contains, E_Contains m)]
theorem tbHas_ok : TabOk (XM m) (tbHas m) := tab_cons (fun xs v h => wide (callQ_ok xs v h)) (tab_cons callQ_ok tab_nil)
noncomputable abbrev E_Has (m : Int) := callF (XM m) f_search_Has (fun q : List UInt8 × List UInt8 => [sv (bs q.1), sv (bs q.2)]) (fun q => q.1.length ≤ 1000000000 ∧ q.2.length ≤ 1000000000) (fun q => bv (Lib.contains (q.1.map lowU) (q.2.map lowU)))
theorem k_Has {T : Tab} (hT : tabK T f_search_Has = E_Has m) {a b : List UInt8} (h : a.length ≤ 1000000000 ∧ b.length ≤ 1000000000) : tabK T f_search_Has [sv (bs a), sv (bs b)] = some (bv (Lib.contains (a.map lowU) (b.map lowU))) := by
  rw [hT]
  refine callF_eq (enc := fun q : List UInt8 × List UInt8 => [sv (bs q.1), sv (bs q.2)]) (fun q hq => ?_) (fun a b h => ?_) (a := (a, b)) h
  · refine pcsearch_Has (m := m) (tab_ok _ tbHas_ok) ?_
    unfold Rsearch_Has
    rw [k_small rfl hq.1, k_small rfl hq.2]
    simp only [optK_s, asStr_v]
    rw [k_Contains rfl (by rw [List.length_map]; omega)]
    rfl
  · rw [two_inj h]
end

/-! Ints -/
def ivL (l : List Int) : List AV := l.map iv
theorem ivL_inj : ∀ {a b : List Int}, ivL a = ivL b → a = b
  | [], [], _ => rfl
  | [], y :: b, h => by simp [ivL] at h
  | x :: a, [], h => by simp [ivL] at h
  | x :: a, y :: b, h => by
    simp [ivL, iv] at h
    rw [h.1, ivL_inj (a := a) (b := b) (by simpa [ivL, iv] using h.2)]
theorem ivL_len (l : List Int) : (ivL l).length = l.length := by simp [ivL]
theorem ivL_get (l : List Int) (i : Nat) (h : i < l.length) : (ivL l)[i]? = some (iv l[i]) := by simp [ivL, h]
structure InS where
  ab : Bool
  a : List Int
  bb : Bool
  b : List Int
  i : Nat
def InS.enc (q : InS) : Sref09_Ints_0 := .s0 q.ab (ivL q.a) q.bb (ivL q.b) q.i
def InS.P (q : InS) : Prop := q.i ≤ q.a.length ∧ q.a.length = q.b.length ∧ q.a.length ≤ 1000000000
def InS.out (q : InS) : Oref09_Ints_0 := if q.a.drop q.i = q.b.drop q.i then .x1 else .x0 false
theorem l_Ints {K : PureK} {q : InS} (h : q.P) : loopF (Rref09_Ints_0 K some) InS.enc InS.P InS.out q.enc = some q.out := by
  refine loopF_eq (enc := InS.enc) (fun q => q.a.length - q.i) (fun q rec hP hrec => ?_) (fun a b h => ?_) h
  · obtain ⟨ab, a, bb, b, i⟩ := q
    obtain ⟨h1, h2, h3⟩ := hP
    simp only [] at h1 h2 h3
    rw [show InS.enc ⟨ab, a, bb, b, i⟩ = .s0 ab (ivL a) bb (ivL b) i from rfl]
    simp only [Rref09_Ints_0, InS.out, ivL_len]
    by_cases hi : i < a.length
    · have hib : i < b.length := by omega
      rw [br_yesD (p := (i : Int) < (a.length : Int)) (by omega), br_yesD (p := 0 ≤ (i : Int)) (by omega), br_yesD (p := (i : Int) < (a.length : Int)) (by omega)]
      rw [show ((i : Int)).toNat = i from rfl, ivL_get a i hi, ivL_get b i hib]
      simp only [optK_s, asInt_v]
      rw [br_yesD (p := 0 ≤ (i : Int)) (by omega), br_yesD (p := (i : Int) < (b.length : Int)) (by omega), List.drop_eq_getElem_cons hi, List.drop_eq_getElem_cons hib]
      by_cases he : a[i] = b[i]
      · rw [show (a[i] != b[i]) = false by simp [he], br_f, w64_id (n := (i : Int) + 1) (by omega) (by omega)]
        have := hrec ⟨ab, a, bb, b, i + 1⟩ ⟨by simp only []; omega, h2, h3⟩ (by simp only []; omega)
        simp only [InS.enc, InS.out] at this
        rw [show ((i : Int) + 1) = ((i + 1 : Nat) : Int) by omega, this, he]
        simp only [List.cons.injEq, true_and]
      · rw [show (a[i] != b[i]) = true by simp [he], br_t, if_neg (fun h => he (List.cons.inj h).1)]
    · rw [br_noD (by omega), List.drop_eq_nil_of_le (by omega), List.drop_eq_nil_of_le (by omega), if_pos rfl]
  · obtain ⟨a1, a2, a3, a4, a5⟩ := a
    obtain ⟨b1, b2, b3, b4, b5⟩ := b
    simp only [InS.enc, Sref09_Ints_0.s0.injEq] at h
    obtain ⟨rfl, h2, rfl, h4, h5⟩ := h
    obtain rfl := ivL_inj h2
    obtain rfl := ivL_inj h4
    obtain rfl : a5 = b5 := by omega
    rfl
noncomputable abbrev E_Ints := callF X f_ref09_Ints (fun q : (Bool × List Int) × (Bool × List Int) => [.lst 1 q.1.1 (ivL q.1.2), .lst 1 q.2.1 (ivL q.2.2)]) (fun q => q.1.2.length ≤ 1000000000) (fun q => bv (decide (q.1.2 = q.2.2)))
theorem k_Ints {T : Tab} (hT : tabK T f_ref09_Ints = E_Ints) {ab bb : Bool} {a b : List Int} (h : a.length ≤ 1000000000) : tabK T f_ref09_Ints [.lst 1 ab (ivL a), .lst 1 bb (ivL b)] = some (bv (decide (a = b))) := by
  rw [hT]
  refine callF_eq (enc := fun q : (Bool × List Int) × (Bool × List Int) => [.lst 1 q.1.1 (ivL q.1.2), .lst 1 q.2.1 (ivL q.2.2)]) (fun q hq => ?_) (fun a b h => ?_) (a := ((ab, a), (bb, b))) h
  · obtain ⟨⟨ab, a⟩, bb, b⟩ := q
    refine pcref09_Ints ok_nil (fun s o h => loopF_ok (enc := InS.enc) (P := InS.P) (f := InS.out) s o h) ?_
    unfold Rref09_Ints
    simp only [ivL_len]
    by_cases hl : a.length = b.length
    · rw [show (((a.length : Nat) : Int) != ((b.length : Nat) : Int)) = false by simp [hl], br_f, show Sref09_Ints_0.s0 ab (ivL a) bb (ivL b) 0 = InS.enc ⟨ab, a, bb, b, 0⟩ from rfl, l_Ints (q := ⟨ab, a, bb, b, 0⟩) ⟨Nat.zero_le _, hl, hq⟩]
      simp only [optK_s, InS.out, List.drop_zero]
      by_cases he : a = b
      · rw [if_pos he, decide_eq_true he]; rfl
      · rw [if_neg he, decide_eq_false he]; rfl
    · rw [show (((a.length : Nat) : Int) != ((b.length : Nat) : Int)) = true by simp; omega, br_t, decide_eq_false]
      rintro rfl
      exact hl rfl
  · obtain ⟨⟨a1, a2⟩, a3, a4⟩ := a
    obtain ⟨⟨b1, b2⟩, b3, b4⟩ := b
    simp at h
    obtain ⟨⟨_, h2⟩, _, h4⟩ := h
    rw [ivL_inj h2, ivL_inj h4]
end Go.Proofs.YtkkbdebmilagoaaGreatDoor
