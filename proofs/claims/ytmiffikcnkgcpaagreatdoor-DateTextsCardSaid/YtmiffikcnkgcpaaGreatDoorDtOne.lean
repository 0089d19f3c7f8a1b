/- Folding of any text, calendars, clocks. -/
import Derived.Test.YtmiffikcnkgcpaaGreatDoorDateM
import Derived.Test.YtmiffikcnkgcpaaGreatDoorToldM2
import Derived.Test.YtmiffikcnkgcpaaGreatDoorAbSpec
import Derived.Test.YtmiffikcnkgcpaaGreatDoorAbByt
import Derived.Laws.RangeString
set_option linter.unusedVariables false
set_option linter.unusedSimpArgs false
set_option maxRecDepth 100000
namespace Go.Proofs.YtmiffikcnkgcpaaGreatDoor
open Go Go.Ab


theorem ex_br {Q : AV → Prop} {c : Bool} {a b : Option AV} (h1 : c = true → ∃ v, Q v ∧ a = some v) (h2 : c = false → ∃ v, Q v ∧ b = some v) : ∃ v, Q v ∧ br c a b = some v := by
  cases c
  · exact h2 rfl
  · exact h1 rfl
/-- The first bytes of runes. -/
def firL : List Nat := List.replicate 128 240 ++ List.replicate 66 241 ++ List.replicate 30 2 ++ List.replicate 1 19 ++ List.replicate 12 3 ++ List.replicate 1 35 ++ List.replicate 2 3 ++ List.replicate 1 52 ++ List.replicate 3 4 ++ List.replicate 1 68 ++ List.replicate 11 241
theorem fir_gl : gl_utf8_first = firL.map fun (z : Nat) => AV.v (.int .u8 (z : Int)) := by kernel_rfl
theorem fir_len : firL.length = 256 := by decide +kernel
theorem fir_get {n : Nat} (h : n < 256) : gl_utf8_first[0 + ((n : Nat) : Int).toNat * 1]? = some (.v (.int .u8 ((firL[n]'(by rw [fir_len]; exact h) : Nat) : Int))) := by
  rw [fir_gl, Nat.zero_add, Nat.mul_one, Int.toNat_natCast, List.getElem?_map, List.getElem?_eq_getElem (by rw [fir_len]; exact h)]
  rfl
theorem fir_kind : ∀ n : Fin 256, 128 ≤ n.1 → firL[n.1]'(by rw [fir_len]; exact n.2) ∈ [241, 2, 19, 3, 35, 52, 4, 68] := by decide +kernel
abbrev Qdr (l : List UInt8) (v : AV) : Prop := ∃ (r : Int) (n : Nat), v = .tup [rv r, iv (n : Int)] ∧ 1 ≤ n ∧ n ≤ l.length ∧ (n = 1 → (l.head?.map fun c => decide (128 ≤ c.toNat)) = some true → r = 65533)
abbrev sfL : List (Int × Int) := [(65, 97), (66, 98), (67, 99), (68, 100), (69, 101), (70, 102), (71, 103), (74, 106), (76, 108), (77, 109), (78, 110), (79, 111), (80, 112), (82, 114), (83, 115), (84, 116), (85, 117), (86, 118), (89, 121), (97, 65), (98, 66), (99, 67), (100, 68), (101, 69), (102, 70), (103, 71), (106, 74), (108, 76), (109, 77), (110, 78), (111, 79), (112, 80), (114, 82), (115, 383), (116, 84), (117, 85), (118, 86), (121, 89), (383, 83)]
theorem t_sf : ∀ p ∈ sfL, Runicode_SimpleFold (tabK []) (fuelRec (Runicode_SimpleFold_0 (tabK []) some) 10) p.1 = some (rv p.2) := by
  intro p hp
  simp only [List.mem_cons, List.not_mem_nil, or_false] at hp
  rcases hp with rfl | rfl | rfl | rfl | rfl | rfl | rfl | rfl | rfl | rfl | rfl | rfl | rfl | rfl | rfl | rfl | rfl | rfl | rfl | rfl | rfl | rfl | rfl | rfl | rfl | rfl | rfl | rfl | rfl | rfl | rfl | rfl | rfl | rfl | rfl | rfl | rfl | rfl | rfl
  · kernel_rfl
  · kernel_rfl
  · kernel_rfl
  · kernel_rfl
  · kernel_rfl
  · kernel_rfl
  · kernel_rfl
  · kernel_rfl
  · kernel_rfl
  · kernel_rfl
  · kernel_rfl
  · kernel_rfl
  · kernel_rfl
  · kernel_rfl
  · kernel_rfl
  · kernel_rfl
  · kernel_rfl
  · kernel_rfl
  · kernel_rfl
  · kernel_rfl
  · kernel_rfl
  · kernel_rfl
  · kernel_rfl
  · kernel_rfl
  · kernel_rfl
  · kernel_rfl
  · kernel_rfl
  · kernel_rfl
  · kernel_rfl
  · kernel_rfl
  · kernel_rfl
  · kernel_rfl
  · kernel_rfl
  · kernel_rfl
  · kernel_rfl
  · kernel_rfl
  · kernel_rfl
  · kernel_rfl
  · kernel_rfl
abbrev encSf (p : Int × Int) : List AV := [rv p.1]
noncomputable abbrev E_sf := callF X f_unicode_SimpleFold encSf (fun p => p ∈ sfL) fun p => rv p.2
theorem callF_P {α : Type} {X : Ctx} {g : FuncId} {enc : α → List AV} {P : α → Prop} {f : α → AV} (hc : ∀ a, P a → PureCall X g (enc a) (f a)) (inj : ∀ a b, P a → P b → enc a = enc b → f b = f a) {a : α} (h : P a) :
    callF X g enc P f (enc a) = some (f a) := by
  obtain ⟨v, a', h1, h2, h3, h4⟩ := callQ_rel (Q := fun a v => v = f a) (fun a ha => ⟨f a, rfl, hc a ha⟩) h
  unfold callF
  rw [h1, h4, inj a a' h h3 h2]
theorem sf_fun : ∀ p ∈ sfL, ∀ q ∈ sfL, p.1 = q.1 → p.2 = q.2 := by decide +kernel
theorem k_sf {T : Tab} (hT : tabK T f_unicode_SimpleFold = E_sf) {p : Int × Int} (hp : p ∈ sfL) : tabK T f_unicode_SimpleFold [rv p.1] = some (rv p.2) := by
  rw [hT]
  exact callF_P (fun a h => pcunicode_SimpleFold ok_nil (fun s o h => ⟨10, h⟩) (t_sf a h)) (fun a b ha hb h => by
    have : a.1 = b.1 := by simpa [encSf] using h
    rw [sf_fun a ha b hb this]) hp

theorem bt_get {l : List UInt8} {i : Nat} (h : i < l.length) : bt (bs l) i = (l[i].toNat : Int) := by rw [bt_bs, List.getElem?_eq_getElem h]; rfl
def badR (b : Nat) : Int := IntKind.i32.wrap ((((BitVec.ofInt 32 (IntKind.i32.wrap ((((BitVec.ofInt 32 (IntKind.i32.wrap ((b : Nat) : Int)) &&& ~~~BitVec.ofInt 32 ((IntKind.i32.wrap (IntKind.i32.wrap 241 * 2147483648)).fdiv 2147483648)).toNat : Nat) : Int))) ||| BitVec.ofInt 32 (IntKind.i32.wrap ((((BitVec.ofInt 32 65533 &&& BitVec.ofInt 32 ((IntKind.i32.wrap (IntKind.i32.wrap 241 * 2147483648)).fdiv 2147483648)).toNat : Nat) : Int)))).toNat : Nat) : Int))
theorem badR_all : ∀ b : Fin 256, badR b.1 = 65533 := by decide +kernel
theorem boolO {x : Option AV} {f : Bool → Option AV} {Q : AV → Prop} (hx : ∃ b, x = some (bv b)) (hf : ∀ b, ∃ v, Q v ∧ f b = some v) : ∃ v, Q v ∧ (optK x fun w => Ab.asBool w f) = some v := by
  obtain ⟨b, rfl⟩ := hx
  simp only [optK_s, asBool_v]
  exact hf b
theorem ex_val {Q : AV → Prop} {v : AV} (h : Q v) : ∃ w, Q w ∧ some v = some w := ⟨v, h, rfl⟩
theorem acc_k : ∀ k : Nat, k ∈ [2, 19, 3, 35, 52, 4, 68] → ((0 + ((k : Int).fdiv 16).toNat * 2 + 2).ble 32 = true) ∧ ((fits Tryz.prog 106 (AV.agg (List.take 2 (List.drop (0 + ((k : Int).fdiv 16).toNat * 2) gl_utf8_acceptRanges))) && (true || refFree (AV.agg (List.take 2 (List.drop (0 + ((k : Int).fdiv 16).toNat * 2) gl_utf8_acceptRanges))))) = true) ∧ ∃ lo hi : Int, List.take 2 (List.drop (0 + ((k : Int).fdiv 16).toNat * 2) gl_utf8_acceptRanges) = [.v (.int .u8 lo), .v (.int .u8 hi)] := by
  intro k hk
  simp only [List.mem_cons, List.not_mem_nil, or_false] at hk
  rcases hk with rfl | rfl | rfl | rfl | rfl | rfl | rfl
  · exact ⟨by kernel_rfl, by kernel_rfl, 128, 191, by kernel_rfl⟩
  · exact ⟨by kernel_rfl, by kernel_rfl, 160, 191, by kernel_rfl⟩
  · exact ⟨by kernel_rfl, by kernel_rfl, 128, 191, by kernel_rfl⟩
  · exact ⟨by kernel_rfl, by kernel_rfl, 128, 159, by kernel_rfl⟩
  · exact ⟨by kernel_rfl, by kernel_rfl, 144, 191, by kernel_rfl⟩
  · exact ⟨by kernel_rfl, by kernel_rfl, 128, 191, by kernel_rfl⟩
  · exact ⟨by kernel_rfl, by kernel_rfl, 128, 143, by kernel_rfl⟩
theorem size_k : ∀ k : Nat, k ∈ [2, 19, 3, 35, 52, 4, 68] → (w64 (w8 ((((BitVec.ofInt 8 (k : Int) &&& BitVec.ofInt 8 7).toNat : Nat) : Int))) = 2 ∨ w64 (w8 ((((BitVec.ofInt 8 (k : Int) &&& BitVec.ofInt 8 7).toNat : Nat) : Int))) = 3 ∨ w64 (w8 ((((BitVec.ofInt 8 (k : Int) &&& BitVec.ofInt 8 7).toNat : Nat) : Int))) = 4) ∧ ¬ (k : Int) ≥ 240 ∧ 0 ≤ (k : Int).fdiv 16 ∧ (k : Int).fdiv 16 < 16 := by decide +kernel
set_option maxHeartbeats 2000000 in
theorem t_slow (K : PureK) (x : UInt8) (l : List UInt8) (hx : 128 ≤ x.toNat) : ∃ v, Qdr (x :: l) v ∧ Rutf8_decodeRuneInStringSlow K (bs (x :: l)) = some v := by
  unfold Rutf8_decodeRuneInStringSlow
  rw [bs_size]
  have hb0 : bt (bs (x :: l)) 0 = (x.toNat : Int) := bt_get (l := x :: l) (i := 0) (by simp)
  have hlt := x.toNat_lt
  rw [br_noD (by simp <;> omega), br_yesD (by simp <;> omega), hb0, br_yesD (by omega), fir_get hlt]
  simp only [optK_s, asInt_v]
  have hk := fir_kind ⟨x.toNat, hlt⟩ hx
  have hbad : Qdr (x :: l) (AV.tup [rv 65533, iv 1]) := ⟨65533, 1, rfl, by decide, by simp, fun _ _ => rfl⟩
  have hmany : ∀ (r : Int) (n : Nat), 2 ≤ n → n ≤ (x :: l).length → Qdr (x :: l) (AV.tup [rv r, iv (n : Int)]) := fun r n h1 h2 => ⟨r, n, rfl, by omega, h2, fun h => by omega⟩
  have hb : ∀ (c d : Bool), ∃ b, br c (some (bv true)) (some (bv d)) = some (bv b) := fun c d => by cases c <;> exact ⟨_, rfl⟩
  simp only [] at hk
  generalize firL[x.toNat] = k at hk ⊢
  rw [List.mem_cons] at hk
  rcases hk with rfl | hk
  · rw [br_yesD (by decide), br_yesD (by simp <;> omega)]
    exact ex_val ⟨_, 1, rfl, by decide, by simp, fun _ _ => badR_all ⟨x.toNat, hlt⟩⟩
  · obtain ⟨a1, a2, lo, hi, a3⟩ := acc_k k hk
    obtain ⟨hS, b1, b2, b3⟩ := size_k k hk
    generalize w64 (w8 ((((BitVec.ofInt 8 (k : Int) &&& BitVec.ofInt 8 7).toNat : Nat) : Int))) = S at hS ⊢
    rw [br_noD b1, br_yesD b2, br_yesD b3, br_pos a1, br_pos a2, a3]
    simp only [List.getElem?_cons_zero, List.getElem?_cons_succ, optK_s, asInt_v]
    generalize hn : (x :: l).length = n at *
    refine ex_br (fun _ => ex_val hbad) fun c1 => ?_
    have c1 := of_decide_eq_false c1
    refine ex_br (fun _ => ?_) fun c2 => absurd (of_decide_eq_false c2) (by omega)
    refine boolO (hb _ _) fun b1 => ?_
    refine ex_br (fun _ => ex_val hbad) fun _ => ?_
    refine ex_br (fun _ => ex_val (hmany _ 2 (by decide) (by omega))) fun c3 => ?_
    have c3 := of_decide_eq_false c3
    refine ex_br (fun _ => ?_) fun c2 => absurd (of_decide_eq_false c2) (by omega)
    refine boolO (hb _ _) fun b1 => ?_
    refine ex_br (fun _ => ex_val hbad) fun _ => ?_
    refine ex_br (fun _ => ex_val (hmany _ 3 (by decide) (by omega))) fun c4 => ?_
    have c4 := of_decide_eq_false c4
    refine ex_br (fun _ => ?_) fun c2 => absurd (of_decide_eq_false c2) (by omega)
    refine boolO (hb _ _) fun b1 => ?_
    exact ex_br (fun _ => ex_val hbad) fun _ => ex_val (hmany _ 4 (by decide) (by omega))
abbrev encB1 (l : List UInt8) : List AV := [sv (bs l)]
theorem encB1_inj {a b : List UInt8} (h : encB1 a = encB1 b) : a = b := by simpa [encB1, bs_inj_iff] using h
noncomputable abbrev E_slow := callQ X f_utf8_decodeRuneInStringSlow encB1 (fun l => (l.head?.map fun c => decide (128 ≤ c.toNat)) = some true) Qdr
noncomputable abbrev tbDr : Tab := [(f_utf8_decodeRuneInStringSlow, E_slow)]
theorem tbDr_ok : TabOk X tbDr := tab_cons callQ_ok tab_nil
theorem t_dr (x : UInt8) (l : List UInt8) : ∃ v, Qdr (x :: l) v ∧ Rutf8_DecodeRuneInString (tabK tbDr) (bs (x :: l)) = some v := by
  unfold Rutf8_DecodeRuneInString
  rw [bs_size, emp, strEq_bs]
  have hb0 : bt (bs (x :: l)) 0 = (x.toNat : Int) := bt_get (l := x :: l) (i := 0) (by simp)
  rw [hb0, br_pos (by simp), br_yesD (by simp <;> omega)]
  simp only [optK_s, asBool_v]
  by_cases hx : 128 ≤ x.toNat
  · rw [br_noD (by omega)]
    obtain ⟨v, ⟨r, n, rfl, h1, h2, h3⟩, hv⟩ := callQ_eq (X := X) (g := f_utf8_decodeRuneInStringSlow) (enc := encB1) (P := fun l => (l.head?.map fun c => decide (128 ≤ c.toNat)) = some true) (Q := Qdr) (fun a ha => by
      cases a with
      | nil => cases ha
      | cons y l =>
        simp only [List.head?_cons, Option.map_some, Option.some.injEq, decide_eq_true_eq] at ha
        obtain ⟨v, hq, hv⟩ := t_slow (tabK []) y l ha
        exact ⟨v, hq, pcutf8_decodeRuneInStringSlow ok_nil hv⟩) (fun a b h v hq => by rw [encB1_inj h]; exact hq) (a := x :: l) (by simp [hx])
    have hv' : tabK tbDr f_utf8_decodeRuneInStringSlow [sv (bs (x :: l))] = _ := hv
    rw [hv']
    simp only [optK_s]
    rw [asTup_v _ 2 rfl]
    simp only [List.getD_cons_zero, List.getD_cons_succ, asInt_v]
    exact ⟨_, ⟨r, n, rfl, h1, h2, h3⟩, rfl⟩
  · rw [br_yesD (by omega), br_yesD (by simp <;> omega)]
    exact ⟨_, ⟨_, 1, rfl, by decide, by simp, fun _ h => by simp at h; omega⟩, rfl⟩
noncomputable abbrev E_dr := callQ X f_utf8_DecodeRuneInString encB1 (fun l => l ≠ []) Qdr
theorem k_dr {T : Tab} (hT : tabK T f_utf8_DecodeRuneInString = E_dr) (x : UInt8) (l : List UInt8) : ∃ (r : Int) (n : Nat), tabK T f_utf8_DecodeRuneInString [sv (bs (x :: l))] = some (.tup [rv r, iv (n : Int)]) ∧ 1 ≤ n ∧ n ≤ l.length + 1 ∧ (n = 1 → 128 ≤ x.toNat → r = 65533) := by
  rw [hT]
  obtain ⟨v, ⟨r, n, rfl, h1, h2, h3⟩, hv⟩ := callQ_eq (X := X) (g := f_utf8_DecodeRuneInString) (enc := encB1) (P := fun l => l ≠ []) (Q := Qdr) (fun a ha => by
    cases a with
    | nil => exact absurd rfl ha
    | cons y l =>
      obtain ⟨v, hq, hv⟩ := t_dr y l
      exact ⟨v, hq, pcutf8_DecodeRuneInString (tab_ok _ tbDr_ok) hv⟩) (fun a b h v hq => by rw [encB1_inj h]; exact hq) (a := x :: l) (by simp)
  exact ⟨r, n, hv, h1, by simpa using h2, fun a b => h3 a (by simp [b])⟩

/-- The letters of the months' names. -/
def letL : List UInt8 := [65, 68, 70, 74, 77, 78, 79, 83, 97, 98, 99, 101, 103, 108, 110, 111, 112, 114, 116, 117, 118, 121]
def swapN (c : UInt8) : Int := if c.toNat < 97 then c.toNat + 32 else c.toNat - 32
theorem let_sf : ∀ c ∈ letL, ((c.toNat : Int), swapN c) ∈ sfL ∧ (c ≠ 83 → (swapN c, (c.toNat : Int)) ∈ sfL) ∧ swapN c ≠ (c.toNat : Int) ∧ swapN c < 128 ∧ (c.toNat : Int) < 128 := by decide +kernel
theorem s_sf : ((115 : Int), (383 : Int)) ∈ sfL ∧ ((383 : Int), (83 : Int)) ∈ sfL := by decide +kernel
noncomputable abbrev lp2 (T : Tab) := fuelRec (Rstrings_EqualFold_2 (tabK T) some) 4
theorem l_orbit {T : Tab} (hT : tabK T f_unicode_SimpleFold = E_sf) {c : UInt8} (hc : c ∈ letL) {r : Int} (hr : 128 ≤ r) (t s : ByteArray) (q : Nat) :
    ∃ f, lp2 T (.s0 t (c.toNat : Int) r (swapN c) s q) = some (.x0 t r f s q) ∧ (f = r → r = 383) := by
  obtain ⟨h1, h2, h3, h4, h5⟩ := let_sf c hc
  have stop : ∀ (n : Nat) (f : Int), (f = (c.toNat : Int) ∨ ¬ f < r) → fuelRec (Rstrings_EqualFold_2 (tabK T) some) (n + 1) (.s0 t (c.toNat : Int) r f s q) = some (.x0 t r f s q) := by
    intro n f hf
    show Rstrings_EqualFold_2 (tabK T) some (fuelRec (Rstrings_EqualFold_2 (tabK T) some) n) (.s0 t (c.toNat : Int) r f s q) = _
    simp only [Rstrings_EqualFold_2]
    rcases hf with rfl | hf
    · rw [br_neg (b := (c.toNat : Int) != (c.toNat : Int)) (by simp)]
      rfl
    · cases (f != (c.toNat : Int)) with
      | true => rw [br_t, decide_eq_false hf]; rfl
      | false => rfl
  have go : ∀ (n : Nat) (f g : Int), f ≠ (c.toNat : Int) → f < r → (f, g) ∈ sfL → fuelRec (Rstrings_EqualFold_2 (tabK T) some) (n + 1) (.s0 t (c.toNat : Int) r f s q) = fuelRec (Rstrings_EqualFold_2 (tabK T) some) n (.s0 t (c.toNat : Int) r g s q) := by
    intro n f g hf hl hm
    show Rstrings_EqualFold_2 (tabK T) some (fuelRec (Rstrings_EqualFold_2 (tabK T) some) n) (.s0 t (c.toNat : Int) r f s q) = _
    simp only [Rstrings_EqualFold_2]
    rw [br_pos (by simpa using hf), decide_eq_true hl]
    simp only [optK_s, asBool_v, br_t]
    rw [k_sf hT (p := (f, g)) hm]
    simp only [optK_s, asInt_v]
  by_cases hS : c = 83
  · subst hS
    rw [show swapN 83 = 115 from rfl]
    show ∃ f, fuelRec _ (3 + 1) _ = _ ∧ _
    rw [go 3 115 383 (by decide) (by omega) s_sf.1]
    by_cases h38 : 383 < r
    · rw [go 2 383 83 (by decide) h38 s_sf.2]
      exact ⟨83, stop 1 83 (.inl rfl), fun h => by omega⟩
    · exact ⟨383, stop 2 383 (.inr h38), fun h => h.symm⟩
  · show ∃ f, fuelRec _ (3 + 1) _ = _ ∧ _
    rw [go 3 _ _ h3 (by omega) (h2 hS)]
    exact ⟨_, stop 2 _ (.inl rfl), fun h => by omega⟩

abbrev encE1 (a : List UInt8) (x : List UInt8 × Nat) : Sstrings_EqualFold_1 := .s0 (bs x.1) (bs a) x.2
abbrev PE1 (a : List UInt8) (x : List UInt8 × Nat) : Prop := x.2 ≤ a.length ∧ (x.1.length < a.length - x.2 ∨ (x.1.length = a.length - x.2 ∧ (x.1.head?.map fun c => decide (128 ≤ c.toNat)) = some true))
abbrev QE1 (_ : List UInt8 × Nat) (o : Ostrings_EqualFold_1) : Prop := ∃ t s q, o = .x0 t false s q
set_option maxHeartbeats 1000000 in
theorem l_E1 {T : Tab} (hT : tabK T f_unicode_SimpleFold = E_sf) (hD : tabK T f_utf8_DecodeRuneInString = E_dr) (a : List UInt8) (ha : ∀ c ∈ a, c ∈ letL) {x : List UInt8 × Nat} (h : PE1 a x) :
    ∃ o, QE1 x o ∧ loopQ (Rstrings_EqualFold_1 (tabK T) (lp2 T) some) (encE1 a) (PE1 a) QE1 (encE1 a x) = some o := by
  refine loopQ_eq (fun x => a.length - x.2) ?_ (fun a b _ o hq => hq) h
  rintro ⟨b, q⟩ rec ⟨h1, h2⟩ hrec
  simp only [] at h1 h2
  have hq : q < a.length := by
    rcases h2 with h2 | ⟨h2, h3⟩
    · omega
    · cases b with
      | nil => cases h3
      | cons y b => simp at h2; omega
  have hc := ha a[q] (List.getElem_mem hq)
  obtain ⟨e1, e2, e3, e4, e5⟩ := let_sf _ hc
  have hdec : Utf8.decode (bs a) q = (a[q].toNat, 1) := decode_ascii (bs a) q (by rw [bs_size]; exact hq) (by show a[q].toNat < 128; omega)
  simp only [encE1, Rstrings_EqualFold_1, bs_size, hdec]
  rw [br_pos (by rw [Nat.blt_eq]; exact hq)]
  cases b with
  | nil => exact ⟨_, ⟨_, _, _, rfl⟩, rfl⟩
  | cons y b =>
    obtain ⟨r, n, hk, n1, n2, n3⟩ := k_dr hD y b
    rw [br_neg (by simp; omega), hk]
    simp only [optK_s]
    rw [asTup_v _ 2 rfl]
    simp only [List.getD_cons_zero, List.getD_cons_succ, asInt_v]
    rw [br_yesD (by omega), br_yesD (by simp only [List.length_cons]; omega), cut_from, Int.toNat_natCast]
    have hgo : ¬ (n = 1 ∧ 128 ≤ y.toNat) → ∃ o, QE1 (y :: b, q) o ∧ rec (.s0 (bs ((y :: b).drop n)) (bs a) (q + 1)) = some o := fun hn => by
      refine hrec ((y :: b).drop n, q + 1) ⟨by simp only []; omega, ?_⟩ (by simp only []; omega)
      left
      simp only [List.length_drop, List.length_cons]
      rcases h2 with h2 | ⟨h2, h3⟩
      · simp only [List.length_cons] at h2; omega
      · simp only [List.length_cons, List.head?_cons, Option.map_some, Option.some.injEq, decide_eq_true_eq] at h2 h3
        omega
    by_cases g1 : r = (a[q].toNat : Int)
    · rw [br_pos (by simpa using g1)]
      exact hgo fun h => by have := n3 h.1 h.2; omega
    · rw [br_neg (by simpa using g1)]
      by_cases g2 : r < (a[q].toNat : Int)
      · rw [br_yesD g2, br_yesD e5]
        have hb : ∃ w, (br (decide (65 ≤ r)) (br (decide (r ≤ 90)) (some (bv ((a[q].toNat : Int) == IntKind.i32.wrap (IntKind.i32.wrap (r + 97) - 65)))) (some (bv false))) (some (bv false))) = some (bv w) := by
          cases decide (65 ≤ r) <;> cases decide (r ≤ 90) <;> exact ⟨_, rfl⟩
        obtain ⟨w, hb⟩ := hb
        rw [hb]
        simp only [optK_s, asBool_v]
        cases w with
        | true => exact hgo fun h => by have := n3 h.1 h.2; omega
        | false => exact ⟨_, ⟨_, _, _, rfl⟩, rfl⟩
      · rw [br_noD g2]
        by_cases g3 : r < 128
        · rw [br_yesD g3]
          have hb : ∃ w, (br (decide (65 ≤ (a[q].toNat : Int))) (br (decide ((a[q].toNat : Int) ≤ 90)) (some (bv (r == IntKind.i32.wrap (IntKind.i32.wrap ((a[q].toNat : Int) + 97) - 65)))) (some (bv false))) (some (bv false))) = some (bv w) := by
            cases decide (65 ≤ (a[q].toNat : Int)) <;> cases decide ((a[q].toNat : Int) ≤ 90) <;> exact ⟨_, rfl⟩
          obtain ⟨w, hb⟩ := hb
          rw [hb]
          simp only [optK_s, asBool_v]
          cases w with
          | true => exact hgo fun h => by have := n3 h.1 h.2; omega
          | false => exact ⟨_, ⟨_, _, _, rfl⟩, rfl⟩
        · rw [br_noD g3, k_sf hT e1]
          simp only [optK_s, asInt_v]
          obtain ⟨f, hf, hff⟩ := l_orbit hT hc (r := r) (by omega) (bs ((y :: b).drop n)) (bs a) (q + 1)
          rw [hf]
          simp only [optK_s, Ostrings_EqualFold_2.k]
          by_cases g4 : f = r
          · rw [br_pos (by simpa using g4)]
            exact hgo fun h => by have := n3 h.1 h.2; have := hff g4; omega
          · rw [br_neg (by simpa using g4)]
            exact ⟨_, ⟨_, _, _, rfl⟩, rfl⟩

theorem or_big (x y : UInt8) (hy : 128 ≤ y.toNat) : decide (w8 (((BitVec.ofInt 8 (x.toNat : Int) ||| BitVec.ofInt 8 (y.toNat : Int)).toNat : Nat) : Int) ≥ 128) = true := by
  have h1 : (BitVec.ofInt 8 (x.toNat : Int)).toNat = x.toNat := by
    rw [BitVec.toNat_ofInt]; have := x.toNat_lt; omega
  have h2 : (BitVec.ofInt 8 (y.toNat : Int)).toNat = y.toNat := by
    rw [BitVec.toNat_ofInt]; have := y.toNat_lt; omega
  have h3 : y.toNat ≤ (BitVec.ofInt 8 (x.toNat : Int) ||| BitVec.ofInt 8 (y.toNat : Int)).toNat := by
    rw [BitVec.toNat_or, h1, h2]
    exact Nat.right_le_or
  have h4 : (BitVec.ofInt 8 (x.toNat : Int) ||| BitVec.ofInt 8 (y.toNat : Int)).toNat < 256 := (BitVec.ofInt 8 (x.toNat : Int) ||| BitVec.ofInt 8 (y.toNat : Int)).isLt
  rw [w8_id (by omega) (by omega)]
  exact decide_eq_true (by omega)
theorem fold_high {x y : UInt8} (hx : x.toNat < 128) (hy : 128 ≤ y.toNat) : foldB x y = false := by
  have hne : (x == y) = false := by
    rw [beq_eq_false_iff_ne]; rintro rfl; omega
  unfold foldB
  rw [hne, if_neg (by omega)]
  by_cases c1 : x.toNat ≤ 90
  · have : (y.toNat == x.toNat + 32) = false := by simp; omega
    rw [this]; simp
  · rw [decide_eq_false c1]; simp
abbrev encE0 (a b : List UInt8) (i : Nat) : Sstrings_EqualFold_0 := .s0 (bs a) (bs b) (i : Int) (b.length : Int)
def outE0 (a b : List UInt8) (i : Nat) : Ostrings_EqualFold_0 := match badAt (a.drop i) (b.drop i) with
  | some j => if asc (b.getD (i + j) 0) then .x1 (bs a) (bs b) false ((i + j : Nat) : Int) else .x0 (bs a) (bs b) ((i + j : Nat) : Int)
  | none => .x2 (bs a) (bs b) (b.length : Int)
theorem foldB_sym (x y : UInt8) : foldB x y = true → x.toNat < 128 → y.toNat < 128 := by
  intro h hx
  rcases Nat.lt_or_ge y.toNat 128 with h' | h'
  · exact h'
  · rw [fold_high hx h'] at h; cases h
set_option maxHeartbeats 1000000 in
theorem l_E0 (K : PureK) (a b : List UInt8) (ha : ∀ c ∈ a, c.toNat < 128) (hab : a.length = b.length) (hl : a.length ≤ 1000000) {i : Nat} (h : i ≤ b.length) :
    loopF (Rstrings_EqualFold_0 K some) (encE0 a b) (fun i => i ≤ b.length) (outE0 a b) (encE0 a b i) = some (outE0 a b i) := by
  refine loopF_eq (fun i => b.length - i) ?_ (fun x y h => by
    have : (x : Int) = y := by simpa [encE0] using h
    rw [show x = y by omega]) h
  intro i rec h1 hrec
  simp only [encE0, Rstrings_EqualFold_0, bs_size, bt_bs, Int.toNat_natCast]
  by_cases hi : i < b.length
  · have hia : i < a.length := by omega
    have hx := ha a[i] (List.getElem_mem hia)
    rw [br_yesD (by omega), br_yesD (by omega), br_yesD (by omega), br_yesD (by omega), br_yesD (by omega), List.getElem?_eq_getElem hia, List.getElem?_eq_getElem hi]
    simp only [Option.getD_some]
    have hda := List.drop_eq_getElem_cons hia
    have hdb := List.drop_eq_getElem_cons hi
    have hgd : b.getD i 0 = b[i] := by rw [List.getD_eq_getElem?_getD, List.getElem?_eq_getElem hi]; rfl
    have hgo : foldB a[i] b[i] = true → rec (.s0 (bs a) (bs b) (w64 ((i : Int) + 1)) (b.length : Int)) = some (outE0 a b i) := by
      intro hf
      rw [w64_id (n := (i : Int) + 1) (by omega) (by omega)]
      have := hrec (i + 1) (by omega) (by omega)
      simp only [encE0] at this
      rw [show ((i : Int) + 1) = ((i + 1 : Nat) : Int) by omega, this]
      simp only [outE0]
      rw [hda, hdb, badAt_cons, if_pos hf]
      cases badAt (a.drop (i + 1)) (b.drop (i + 1)) with
      | none => rfl
      | some j => simp only [Option.map_some]; rw [show i + 1 + j = i + (j + 1) by omega]
    have hst : foldB a[i] b[i] = false → asc b[i] = true → some (Ostrings_EqualFold_0.x1 (bs a) (bs b) false (i : Int)) = some (outE0 a b i) := by
      intro hf hasc
      simp only [outE0]
      rw [hda, hdb, badAt_cons, if_neg (by rw [hf]; simp)]
      simp only [Nat.add_zero, hgd, hasc, if_true]
    have hhi : asc b[i] = false → some (Ostrings_EqualFold_0.x0 (bs a) (bs b) (i : Int)) = some (outE0 a b i) := by
      intro hasc
      have hy : 128 ≤ b[i].toNat := by simpa [asc] using hasc
      simp only [outE0]
      rw [hda, hdb, badAt_cons, if_neg (by rw [fold_high hx hy]; simp)]
      simp only [Nat.add_zero, hgd, hasc]
      rfl
    generalize a[i] = x at *
    generalize b[i] = y at *
    by_cases hy : 128 ≤ y.toNat
    · rw [br_pos (or_big _ _ hy)]
      exact hhi (by simp [asc]; omega)
    · have hasc : asc y = true := by simp [asc]; omega
      rw [br_neg (or_small _ _ hx (by omega))]
      have hxy : (((y.toNat : Int)) == (x.toNat : Int)) = (x == y) := by
        rw [Bool.eq_iff_iff, beq_iff_eq, beq_iff_eq]
        constructor
        · intro h; exact (UInt8.toNat_inj.1 (by omega))
        · rintro rfl; rfl
      rw [hxy]
      cases he : (x == y) with
      | true => rw [br_t]; exact hgo (by unfold foldB; rw [he]; rfl)
      | false =>
        rw [br_f]
        have hne : x.toNat ≠ y.toNat := fun h => by
          have := UInt8.toNat_inj.1 h
          subst this
          simp at he
        by_cases hlt : y.toNat < x.toNat
        · rw [br_yesD (by omega)]
          by_cases c1 : 65 ≤ y.toNat
          · by_cases c2 : y.toNat ≤ 90
            · rw [br_yesD (by omega), br_yesD (by omega), w8_id (n := (y.toNat : Int) + 97) (by omega) (by omega), w8_id (n := (y.toNat : Int) + 97 - 65) (by omega) (by omega)]
              simp only [optK_s, asBool_v]
              by_cases c3 : x.toNat = y.toNat + 32
              · rw [br_pos (by simp; omega)]
                exact hgo (by unfold foldB; rw [he, if_pos hlt]; simp [c1, c2, c3])
              · rw [br_neg (by simp; omega)]
                exact hst (by unfold foldB; rw [he, if_pos hlt]; simp [c3]) hasc
            · rw [br_yesD (by omega), br_noD (by omega)]
              exact hst (by unfold foldB; rw [he, if_pos hlt]; simp [c2]) hasc
          · rw [br_noD (by omega)]
            exact hst (by unfold foldB; rw [he, if_pos hlt]; simp [c1]) hasc
        · rw [br_noD (by omega)]
          by_cases c1 : 65 ≤ x.toNat
          · by_cases c2 : x.toNat ≤ 90
            · rw [br_yesD (by omega), br_yesD (by omega), w8_id (n := (x.toNat : Int) + 97) (by omega) (by omega), w8_id (n := (x.toNat : Int) + 97 - 65) (by omega) (by omega)]
              simp only [optK_s, asBool_v]
              by_cases c3 : y.toNat = x.toNat + 32
              · rw [br_pos (by simp; omega)]
                exact hgo (by unfold foldB; rw [he, if_neg hlt]; simp [c1, c2, c3])
              · rw [br_neg (by simp; omega)]
                exact hst (by unfold foldB; rw [he, if_neg hlt]; simp [c3]) hasc
            · rw [br_yesD (by omega), br_noD (by omega)]
              exact hst (by unfold foldB; rw [he, if_neg hlt]; simp [c2]) hasc
          · rw [br_noD (by omega)]
            exact hst (by unfold foldB; rw [he, if_neg hlt]; simp [c1]) hasc
  · rw [br_noD (by omega)]
    have hb0 : badAt (a.drop i) (b.drop i) = none := by
      rw [List.drop_of_length_le (show b.length ≤ i by omega)]; simp [badAt]
    simp only [outE0, hb0]
    rw [show i = b.length by omega]
noncomputable def tbEf : Tab := [(f_unicode_SimpleFold, E_sf), (f_utf8_DecodeRuneInString, E_dr)]
theorem tbEf_ok : TabOk X tbEf := tab_cons callQ_ok (tab_cons callQ_ok tab_nil)
abbrev encEf (x : List UInt8 × List UInt8) : List AV := [sv (bs x.1), sv (bs x.2)]
abbrev PEf (x : List UInt8 × List UInt8) : Prop := (∀ c ∈ x.1, c ∈ letL) ∧ x.1.length = x.2.length ∧ x.1.length ≤ 1000000
theorem p_Ef (x : List UInt8 × List UInt8) (h : PEf x) : PureCall X f_strings_EqualFold (encEf x) (bv (eqFold x.1 x.2)) := by
  obtain ⟨a, b⟩ := x
  obtain ⟨h1, h2, h3⟩ := h
  simp only [] at h1 h2 h3
  have hasc : ∀ c ∈ a, c.toNat < 128 := fun c hc => by have := (let_sf c (h1 c hc)).2.2.2.2; omega
  obtain ⟨A, hA⟩ : ∃ A, A = a.drop ((badAt a b).getD 0) := ⟨_, rfl⟩
  refine pcstrings_EqualFold (tab_ok _ tbEf_ok) (lstrings_EqualFold_0 := loopF (Rstrings_EqualFold_0 (tabK tbEf) some) (encE0 a b) (fun i => i ≤ b.length) (outE0 a b)) loopQ_ok (lstrings_EqualFold_2 := lp2 tbEf) (fun s o h => ⟨4, h⟩) (lstrings_EqualFold_1 := loopQ (Rstrings_EqualFold_1 (tabK tbEf) (lp2 tbEf) some) (encE1 A) (PE1 A) QE1) loopQ_ok ?_
  unfold Rstrings_EqualFold
  have hif : (if ((bs b).size : Int) < ((bs a).size : Int) then ((bs b).size : Int) else ((bs a).size : Int)) = (b.length : Int) := by
    rw [bs_size, bs_size]; split <;> omega
  simp only [hif]
  have h0 := l_E0 (tabK tbEf) a b hasc h2 h3 (i := 0) (Nat.zero_le _)
  have h0' : loopF (Rstrings_EqualFold_0 (tabK tbEf) some) (encE0 a b) (fun i => i ≤ b.length) (outE0 a b) (.s0 (bs a) (bs b) 0 (b.length : Int)) = some (outE0 a b 0) := h0
  rw [h0']
  simp only [optK_s, outE0, List.drop_zero]
  unfold eqFold
  cases hbad : badAt a b with
  | none =>
    simp only [Ostrings_EqualFold_0.k, bs_size]
    have : (a.zip b).all (fun p => foldB p.1 p.2) = true := by
      rw [List.all_eq_true]
      intro p hp
      have := (List.findIdx?_eq_none_iff.1 hbad) p hp
      simpa using this
    rw [this, Bool.and_true]
    refine congrArg (fun b => some (bv b)) ?_
    rw [Bool.eq_iff_iff, beq_iff_eq, decide_eq_true_eq]
    omega
  | some j =>
    have : (a.zip b).all (fun p => foldB p.1 p.2) = false := by
      obtain ⟨hj, hp, _⟩ := List.findIdx?_eq_some_iff_getElem.1 hbad
      rw [Bool.eq_false_iff]
      intro hall
      have := List.all_eq_true.1 hall _ (List.getElem_mem hj)
      rw [this] at hp
      cases hp
    have hjl : j < b.length := by
      obtain ⟨hj, _, _⟩ := List.findIdx?_eq_some_iff_getElem.1 hbad
      simp at hj; omega
    rw [this, Bool.and_false]
    simp only [Nat.zero_add]
    cases hs : asc (b.getD j 0) with
    | true => rfl
    | false =>
      have hbj : 128 ≤ b[j].toNat := by
        rw [List.getD_eq_getElem?_getD, List.getElem?_eq_getElem hjl] at hs
        simpa [asc] using hs
      simp only [Ostrings_EqualFold_0.k, bs_size, if_neg (show ¬ false = true by decide)]
      rw [br_yesD (by omega), br_yesD (by omega), br_yesD (by omega), br_yesD (by omega), cut_from, cut_from, Int.toNat_natCast]
      have hdb := List.drop_eq_getElem_cons hjl
      rw [hbad, Option.getD_some] at hA
      obtain ⟨o, ⟨t, s, q, rfl⟩, ho⟩ := l_E1 (T := tbEf) rfl rfl A (fun c hc => h1 c (by rw [hA] at hc; exact List.drop_subset _ _ hc)) (x := (b.drop j, 0)) ⟨Nat.zero_le _, .inr ⟨by simp only [hA, List.length_drop]; omega, by simp only [hdb, List.head?_cons, Option.map_some, Option.some.injEq, decide_eq_true_eq]; exact hbj⟩⟩
      have ho' : loopQ (Rstrings_EqualFold_1 (tabK tbEf) (lp2 tbEf) some) (encE1 A) (PE1 A) QE1 (.s0 (bs (b.drop j)) (bs (a.drop j)) 0) = some (.x0 t false s q) := by rw [← hA]; exact ho
      rw [ho']
      rfl
noncomputable abbrev E_Ef := callF X f_strings_EqualFold encEf PEf fun x => bv (eqFold x.1 x.2)
theorem k_Ef {T : Tab} (hT : tabK T f_strings_EqualFold = E_Ef) {a b : List UInt8} (h : PEf (a, b)) : tabK T f_strings_EqualFold [sv (bs a), sv (bs b)] = some (bv (eqFold a b)) := by
  rw [hT]
  exact callF_eq (enc := encEf) (P := PEf) (f := fun x => bv (eqFold x.1 x.2)) p_Ef (fun x y h => by
    obtain ⟨x1, x2⟩ := x
    obtain ⟨y1, y2⟩ := y
    simp only [encEf, List.cons.injEq, AV.v.injEq, Value.string.injEq, bs_inj_iff, and_true] at h
    rw [h.1, h.2]) (a := (a, b)) h


def nameL : List (List UInt8) := [[74, 97, 110], [70, 101, 98], [77, 97, 114], [65, 112, 114], [77, 97, 121], [74, 117, 110], [74, 117, 108], [65, 117, 103], [83, 101, 112], [79, 99, 116], [78, 111, 118], [68, 101, 99]]
def nameAt (i : Int) : List UInt8 := nameL.getD i.toNat []
/-- The first month, from i on, that this name is of, with such a day. -/
def calFrom (go : Bool) (mon : List UInt8) (y d : Int) : Nat → Int → Option Int
  | 0, _ => none
  | k + 1, i => match go && decide (mon.length = 3) && eqFold (nameAt i) mon && thereI y (i + 1) d with
    | true => some (yday y + mday y (i + 1) + d - 1)
    | false => calFrom go mon y d k (i + 1)
noncomputable def tbC : Tab := [(f_date_number, e_number), (f_strings_EqualFold, E_Ef), (f_date_there, e42), (f_date_count, e39)]
theorem tbC_ok : TabOk X tbC := tab_cons e_number_ok (tab_cons callQ_ok (tab_cons e42_ok (tab_cons e39_ok tab_nil)))
theorem kC_num {l : List UInt8} {lo hi : Int} (h : 1 ≤ lo ∧ hi ≤ 18) : tabK tbC f_date_number [sv (bs l), iv lo, iv hi] = some (pairIB (numB l lo hi)) := by
  show br (decide (1 ≤ lo ∧ hi ≤ 18)) (some (pairIB (numB (bs l).data.toList lo hi))) none = _
  rw [bs_list, br_yesD h]
theorem kC_fold {a b : List UInt8} (h : PEf (a, b)) : tabK tbC f_strings_EqualFold [sv (bs a), sv (bs b)] = some (bv (eqFold a b)) := k_Ef rfl h
theorem kC_there {y m d : Int} : tabK tbC f_date_there [iv y, iv m, iv d] = some (bv (thereI y m d)) := rfl
theorem kC_count {y m d : Int} (h : 0 ≤ y ∧ y ≤ 9999 ∧ 1 ≤ m ∧ m ≤ 12 ∧ -1000000 ≤ d ∧ d ≤ 1000000) : tabK tbC f_date_count [iv y, iv m, iv d] = some (iv (yday y + mday y m + d - 1)) := br_pos (decide_eq_true h)

theorem nameAt_ok {i : Int} (h0 : 0 ≤ i) (h : i < 12) : (∀ c ∈ nameAt i, c ∈ letL) ∧ (nameAt i).length = 3 := by
  have : i = 0 ∨ i = 1 ∨ i = 2 ∨ i = 3 ∨ i = 4 ∨ i = 5 ∨ i = 6 ∨ i = 7 ∨ i = 8 ∨ i = 9 ∨ i = 10 ∨ i = 11 := by omega
  rcases this with rfl | rfl | rfl | rfl | rfl | rfl | rfl | rfl | rfl | rfl | rfl | rfl <;> decide
def namesV : List AV := nameL.map fun l => sv (bs l)
theorem namesV_get {i : Int} (h0 : 0 ≤ i) (h : i < 12) : namesV[i.toNat * 1]? = some (sv (bs (nameAt i))) := by
  have : i = 0 ∨ i = 1 ∨ i = 2 ∨ i = 3 ∨ i = 4 ∨ i = 5 ∨ i = 6 ∨ i = 7 ∨ i = 8 ∨ i = 9 ∨ i = 10 ∨ i = 11 := by omega
  rcases this with rfl | rfl | rfl | rfl | rfl | rfl | rfl | rfl | rfl | rfl | rfl | rfl <;> rfl

noncomputable def inv_cal : Sdate_calendar_0 → Bool
  | .s0 mon d ok y is n0 n1 n2 n3 n4 n5 n6 n7 n8 n9 n10 n11 i => propB ([sv n0, sv n1, sv n2, sv n3, sv n4, sv n5, sv n6, sv n7, sv n8, sv n9, sv n10, sv n11] = namesV ∧ 0 ≤ i ∧ i ≤ 12)
theorem i_cal {mon : ByteArray} {d : Int} {ok : Bool} {y : Int} {is : Bool} {n0 n1 n2 n3 n4 n5 n6 n7 n8 n9 n10 n11 : ByteArray} {i : Int}
    (h : [sv n0, sv n1, sv n2, sv n3, sv n4, sv n5, sv n6, sv n7, sv n8, sv n9, sv n10, sv n11] = namesV ∧ 0 ≤ i ∧ i ≤ 12) :
    inv_cal (.s0 mon d ok y is n0 n1 n2 n3 n4 n5 n6 n7 n8 n9 n10 n11 i) = true := propB_of h
def out_cal : Sdate_calendar_0 → Odate_calendar_0
  | .s0 mon d ok y is n0 n1 n2 n3 n4 n5 n6 n7 n8 n9 n10 n11 i => match calFrom (ok && is) mon.data.toList y d (12 - i).toNat i with
    | some n => .x0 n true
    | none => .x1
theorem l_cal : ∀ s o, lOf inv_cal out_cal s = some o → ∃ k, fuelRec (Rdate_calendar_0 (tabK tbC) some) k s = some o :=
  fuel_of inv_cal out_cal (fun | .s0 _ _ _ _ _ _ _ _ _ _ _ _ _ _ _ _ _ i => (12 - i).toNat) (by
    rintro ⟨mon, d, ok, y, is, n0, n1, n2, n3, n4, n5, n6, n7, n8, n9, n10, n11, i⟩ rec hi hrec
    obtain ⟨hn, h0, h12⟩ := of_propB hi
    obtain ⟨m, rfl⟩ := exists_bs mon
    simp only [Rdate_calendar_0]
    by_cases h : i < 12
    · rw [br_yesD h, br_yesD h0, br_yesD h, hn, namesV_get h0 h]
      simp only [optK_s, asStr_v, bs_size]
      have hna := nameAt_ok h0 h
      obtain ⟨k, hk⟩ : ∃ k, (12 - i).toNat = k + 1 := ⟨(12 - i).toNat - 1, by omega⟩
      have hk' : (12 - (i + 1)).toNat = k := by omega
      rw [w64_id (n := i + 1) (by omega) (by omega), hrec _ (i_cal ⟨hn, by omega, by omega⟩) (by show (12 - (i + 1)).toNat < (12 - i).toNat; omega)]
      have e : (br ok (br is (br (((m.length : Nat) : Int) == (((nameAt i).length : Nat) : Int)) (optK (tabK tbC f_strings_EqualFold [sv (bs (nameAt i)), sv (bs m)]) fun wv4 => Ab.asBool wv4 fun wb5 => br wb5 (optK (tabK tbC f_date_there [iv y, iv (i + 1), iv d]) fun wv6 => Ab.asBool wv6 fun wb7 => some (bv wb7)) (some (bv false))) (some (bv false))) (some (bv false))) (some (bv false)))
          = some (bv (ok && is && decide (m.length = 3) && eqFold (nameAt i) m && thereI y (i + 1) d)) := by
        cases ok with
        | false => rfl
        | true =>
          cases is with
          | false => rfl
          | true =>
            rw [br_t, br_t, hna.2]
            by_cases h3 : m.length = 3
            · rw [br_pos (by simp [h3]), kC_fold (a := nameAt i) (b := m) ⟨hna.1, by simp only []; omega, by simp only []; omega⟩, kC_there]
              simp only [optK_s, asBool_v, h3, decide_true, Bool.true_and]
              cases eqFold (nameAt i) m <;> rfl
            · rw [br_neg (by simp; omega), decide_eq_false h3]; rfl
      rw [e]
      simp only [optK_s, asBool_v, out_cal, bs_list, hk, hk', calFrom]
      cases hb : (ok && is && decide (m.length = 3) && eqFold (nameAt i) m && thereI y (i + 1) d) with
      | false => rfl
      | true =>
        have ht : thereI y (i + 1) d = true := by
          revert hb; cases thereI y (i + 1) d <;> simp
        have := there_day ht
        rw [br_t, kC_count (by omega)]
        rfl
    · rw [br_noD h]
      obtain rfl : i = 12 := by omega
      rfl)

def calB (dom mon year : List UInt8) : Int × Bool :=
  match calFrom ((numB dom 1 2).2 && (numB year 4 4).2) mon (numB year 4 4).1 (numB dom 1 2).1 12 0 with
  | some n => (n, true)
  | none => (0, false)
theorem t_calendar (dom mon year : List UInt8) : Rdate_calendar (tabK tbC) (lOf inv_cal out_cal) (bs dom) (bs mon) (bs year) = some (pairIB (calB dom mon year)) := by
  unfold Rdate_calendar calB
  rw [kC_num (by decide), kC_num (by decide)]
  generalize numB dom 1 2 = p
  generalize numB year 4 4 = q
  simp only [optK_s, pairIB]
  rw [asTup_v _ 2 rfl]
  simp only [List.getD_cons_zero, List.getD_cons_succ, asInt_v, asBool_v]
  rw [asTup_v _ 2 rfl]
  simp only [List.getD_cons_zero, List.getD_cons_succ, asInt_v, asBool_v]
  rw [lOf_pos (i_cal ⟨by rfl, by decide, by decide⟩)]
  simp only [optK_s, out_cal, bs_list]
  rw [show (12 - (0 : Int)).toNat = 12 from rfl]
  cases calFrom (p.2 && q.2) mon q.1 p.1 12 0 <;> rfl
abbrev enc3 (x : List UInt8 × List UInt8 × List UInt8) : List AV := [sv (bs x.1), sv (bs x.2.1), sv (bs x.2.2)]
theorem enc3_inj {a b : List UInt8 × List UInt8 × List UInt8} (h : enc3 a = enc3 b) : a = b := by
  obtain ⟨a1, a2, a3⟩ := a
  obtain ⟨b1, b2, b3⟩ := b
  simp only [enc3, List.cons.injEq, AV.v.injEq, Value.string.injEq, bs_inj_iff, and_true] at h
  rw [h.1, h.2.1, h.2.2]
noncomputable abbrev E_cal := callF X f_date_calendar enc3 (fun _ => True) fun x => pairIB (calB x.1 x.2.1 x.2.2)
theorem k_cal {T : Tab} (hT : tabK T f_date_calendar = E_cal) (a b c : List UInt8) : tabK T f_date_calendar [sv (bs a), sv (bs b), sv (bs c)] = some (pairIB (calB a b c)) := by
  rw [hT]
  exact callF_eq (enc := enc3) (P := fun _ => True) (f := fun x => pairIB (calB x.1 x.2.1 x.2.2)) (fun x _ => pcdate_calendar (tab_ok _ tbC_ok) l_cal (t_calendar x.1 x.2.1 x.2.2)) (fun x y h => by rw [enc3_inj h]) (a := (a, b, c)) trivial


/-- The seconds of a clock's parts. -/
def clockGo : List (List UInt8) → Int → Int → Int × Bool
  | [], n, _ => (n, true)
  | p :: ps, n, i => match !(numB p 2 2).2 || (decide ((numB p 2 2).1 > 59) || (i == 0 && decide ((numB p 2 2).1 > 23))) with
    | true => (n, false)
    | false => clockGo ps (n * 60 + (numB p 2 2).1) (i + 1)
theorem clockGo_range : ∀ (ps : List (List UInt8)) (n i : Int), 0 ≤ n → 0 ≤ (clockGo ps n i).1 ∧ (clockGo ps n i).1 < (n + 1) * 60 ^ ps.length
  | [], n, i, h => by simp [clockGo]; omega
  | p :: ps, n, i, h => by
    unfold clockGo
    have h60 : (0 : Int) < 60 ^ ps.length := Int.pow_pos (by decide)
    split
    · refine ⟨h, ?_⟩
      rw [List.length_cons, Int.pow_succ]
      have : (n + 1) * 1 ≤ (n + 1) * (60 ^ ps.length * 60) := Int.mul_le_mul_of_nonneg_left (by omega) (by omega)
      simp only [] at *
      omega
    · rename_i hb
      have hr := numB_range p 2 2 (by decide)
      have h59 : (numB p 2 2).1 ≤ 59 := by
        revert hb; cases (numB p 2 2).2 <;> simp <;> omega
      have ih := clockGo_range ps (n * 60 + (numB p 2 2).1) (i + 1) (by omega)
      refine ⟨ih.1, Int.lt_of_lt_of_le ih.2 ?_⟩
      rw [List.length_cons, Int.pow_succ, Int.mul_comm ((60 : Int) ^ ps.length) 60, ← Int.mul_assoc]
      exact Int.mul_le_mul_of_nonneg_right (by omega) (by omega)

theorem svs_length (ps : List (List UInt8)) : (svs ps).length = ps.length := by simp [svs]
theorem svs_get (ps : List (List UInt8)) (i : Nat) (h : i < ps.length) : (svs ps)[i]? = some (sv (bs ps[i])) := by simp [svs, h]
def tbKk : Tab := [(f_date_number, e_number), (f_strings_Index, e_Index), (f_strings_Count, e_Count)]
theorem tbKk_ok : TabOk X tbKk := tab_cons e_number_ok (tab_cons e_Index_ok (tab_cons e_Count_ok tab_nil))
theorem kKk_num {l : List UInt8} {lo hi : Int} (h : 1 ≤ lo ∧ hi ≤ 18) : tabK tbKk f_date_number [sv (bs l), iv lo, iv hi] = some (pairIB (numB l lo hi)) := by
  show br (decide (1 ≤ lo ∧ hi ≤ 18)) (some (pairIB (numB (bs l).data.toList lo hi))) none = _
  rw [bs_list, br_yesD h]
/-- The loop of strings.genSplit at a separator of one byte. -/
noncomputable def inv_kg (c : UInt8) : Sdate_clock_strings_genSplit_0 → Bool
  | .s0 s sep save n i obj => propB (sep = bs [c] ∧ save = 0 ∧ 0 ≤ i ∧ s.size ≤ 70368744177664 ∧ i + (s.data.toList.count c : Nat) = n ∧ n < 70368744177664 ∧ (obj.length : Int) = n + 1)
theorem i_kg {c : UInt8} {s sep : ByteArray} {save n i : Int} {obj : List AV} (h : sep = bs [c] ∧ save = 0 ∧ 0 ≤ i ∧ s.size ≤ 70368744177664 ∧ i + (s.data.toList.count c : Nat) = n ∧ n < 70368744177664 ∧ (obj.length : Int) = n + 1) : inv_kg c (.s0 s sep save n i obj) = true := propB_of h
def out_kg (c : UInt8) : Sdate_clock_strings_genSplit_0 → Odate_clock_strings_genSplit_0
  | .s0 s sep save n i obj => .x0 (bs ((splitL c s.data.toList).getLast (splitL_ne c _))) n (obj.take i.toNat ++ svs (splitL c s.data.toList).dropLast ++ obj.drop n.toNat)

theorem l_kg (c : UInt8) : ∀ s o, lOf (inv_kg c) (out_kg c) s = some o → ∃ k, fuelRec (Rdate_clock_strings_genSplit_0 (tabK tbKk) some) k s = some o :=
  fuel_of (inv_kg c) (out_kg c) (fun | .s0 s sep save n i obj => (n - i).toNat) (by
    rintro ⟨s, sep, save, n, i, obj⟩ rec hi hrec
    obtain ⟨rfl, rfl, h0, hs, hc, hn, ho⟩ := of_propB hi
    obtain ⟨l, rfl⟩ := exists_bs s
    rw [bs_list] at hc
    rw [bs_size] at hs
    simp only [Rdate_clock_strings_genSplit_0]
    by_cases h : i < n
    · have hm : c ∈ l := List.count_pos_iff.1 (by omega)
      obtain ⟨a, b, rfl, ha⟩ := mem_split hm
      rw [br_yesD h, show tabK tbKk f_strings_Index [sv (bs (a ++ c :: b)), sv (bs [c])] = some (iv (firstIdx (bs (a ++ c :: b)) c)) from rfl, firstIdx_at ha]
      simp only [optK_s, asInt_v]
      have hca : List.count c a = 0 := List.count_eq_zero.2 ha
      have hcc : List.count c (a ++ c :: b) = List.count c b + 1 := by rw [List.count_append, hca]; simp
      have hl : (a ++ c :: b).length = a.length + b.length + 1 := by simp; omega
      rw [hl] at hs
      rw [hcc] at hc
      rw [bs_size, hl, show (bs [c]).size = 1 from rfl]
      rw [w64_id (n := (a.length : Int) + 0) (by omega) (by omega), w64_id (n := (a.length : Int) + ((1 : Nat) : Int)) (by omega) (by omega), w64_id (n := i + 1) (by omega) (by omega)]
      rw [br_noD (by omega), br_yesD (by omega), br_yesD (by omega), br_yesD h0, br_yesD (by omega), br_yesD (by omega), br_yesD (by omega)]
      rw [cut_from, cut_to]
      have e1 : (a ++ c :: b).drop ((a.length : Int) + ((1 : Nat) : Int)).toNat = b := by
        rw [show ((a.length : Int) + ((1 : Nat) : Int)).toNat = a.length + 1 by omega]
        simp
      have e2 : (a ++ c :: b).take ((a.length : Int) + 0).toNat = a := by
        rw [show ((a.length : Int) + 0).toNat = a.length by omega]
        simp
      rw [e1, e2]
      rw [hrec _ (i_kg ⟨rfl, rfl, by omega, by rw [bs_size]; omega, by rw [bs_list]; omega, hn, by simp; omega⟩) (by show (n - (i + 1)).toNat < (n - i).toNat; omega)]
      simp only [out_kg, bs_list, splitL_at c b ha]
      have hne := splitL_ne c b
      congr 2
      · rw [List.getLast_cons hne]
      · rw [List.dropLast_cons_of_ne_nil hne]
        have hi1 : (i + 1).toNat = i.toNat + 1 := by omega
        have hil : i.toNat < obj.length := by omega
        rw [hi1, Nat.zero_add, List.drop_set_of_lt (by omega), List.take_succ_eq_append_getElem (by simpa using hil)]
        simp [svs, List.take_set_of_le]
    · have hin : i = n := by omega
      have hcz : l.count c = 0 := by omega
      have hm : c ∉ l := List.count_eq_zero.1 hcz
      rw [br_noD h]
      simp only [out_kg, bs_list, splitL_no c hm]
      subst hin
      simp [svs])


abbrev encCk (ps : List (List UInt8)) (a : Int × Nat) : Sdate_clock_0 := .s0 a.1 3 (a.2 : Int) (svs ps)
abbrev PCk (a : Int × Nat) : Prop := a.2 ≤ 3 ∧ 0 ≤ a.1 ∧ a.1 < (60 : Int) ^ a.2
def outCk (ps : List (List UInt8)) (a : Int × Nat) : Odate_clock_0 := match clockGo (ps.drop a.2) a.1 (a.2 : Int) with
  | (m, true) => .x1 m (svs ps)
  | (m, false) => .x0 0 false m (svs ps)
theorem l_Ck (ps : List (List UInt8)) (h3 : ps.length = 3) {a : Int × Nat} (h : PCk a) : loopF (Rdate_clock_0 (tabK tbKk) some) (encCk ps) PCk (outCk ps) (encCk ps a) = some (outCk ps a) := by
  refine loopF_eq (fun a => 3 - a.2) ?_ (fun x y h => by
    obtain ⟨x1, x2⟩ := x
    obtain ⟨y1, y2⟩ := y
    simp [encCk] at h
    obtain ⟨rfl, h⟩ := h
    rw [show x2 = y2 by omega]) h
  rintro ⟨n, i⟩ rec ⟨hl, hn0, hn⟩ hrec
  simp only [] at hl hn0 hn
  simp only [encCk, Rdate_clock_0]
  by_cases hi : i < 3
  · have hlt : i < ps.length := by omega
    rw [br_yesD (by omega), br_yesD (by omega), br_yesD (by first | omega | (rw [svs_length]; omega)), Nat.zero_add, Int.toNat_natCast, svs_get _ _ hlt]
    simp only [optK_s, asStr_v]
    rw [kKk_num (by decide)]
    have hr := numB_range ps[i] 2 2 (by decide)
    have hcl : clockGo (List.drop i ps) n (i : Int) = match !(numB ps[i] 2 2).2 || (decide ((numB ps[i] 2 2).1 > 59) || ((i : Int) == 0 && decide ((numB ps[i] 2 2).1 > 23))) with
        | true => (n, false)
        | false => clockGo (List.drop (i + 1) ps) (n * 60 + (numB ps[i] 2 2).1) ((i : Int) + 1) := by
      rw [List.drop_eq_getElem_cons hlt]; rfl
    simp only [outCk, hcl]
    generalize numB ps[i] 2 2 = p at hr ⊢
    obtain ⟨x, ok⟩ := p
    simp only [optK_s, pairIB]
    rw [asTup_v _ 2 rfl]
    simp only [List.getD_cons_zero, List.getD_cons_succ, asInt_v, asBool_v]
    have e : (br (!ok) (some (bv true)) (br (decide (x > 59)) (some (bv true)) (br ((i : Int) == 0) (some (bv (decide (x > 23)))) (some (bv false)))))
        = some (bv (!ok || (decide (x > 59) || ((i : Int) == 0 && decide (x > 23))))) := by
      cases ok <;> cases decide (x > 59) <;> cases ((i : Int) == 0) <;> rfl
    rw [e]
    simp only [optK_s, asBool_v]
    cases hb : (!ok || (decide (x > 59) || ((i : Int) == 0 && decide (x > 23)))) with
    | true => rfl
    | false =>
      have h59 : x ≤ 59 := by
        revert hb; cases ok <;> simp <;> omega
      simp only [] at hr
      have hi3 : i = 0 ∨ i = 1 ∨ i = 2 := by omega
      have hn' : n ≤ 360000000 ∧ n * 60 + x < (60 : Int) ^ (i + 1) := by
        rcases hi3 with rfl | rfl | rfl <;> simp at hn ⊢ <;> omega
      rw [br_f, w64_id (n := n * 60) (by omega) (by omega), w64_id (n := n * 60 + x) (by omega) (by omega), w64_id (n := (i : Int) + 1) (by omega) (by omega)]
      have := hrec (n * 60 + x, i + 1) ⟨by simp only []; omega, by simp only []; omega, hn'.2⟩ (by simp only []; omega)
      simp only [encCk, outCk] at this
      rw [show ((i : Int) + 1) = ((i + 1 : Nat) : Int) by omega]
      exact this
  · rw [br_noD (by omega)]
    simp only [outCk]
    rw [List.drop_of_length_le (by omega)]
    rfl

abbrev encCkb (ps : List (List UInt8)) (a : Int × Nat) : Sdate_clock_0b := .s0 a.1 3 3 (a.2 : Int) (svs ps)
abbrev PCkb (a : Int × Nat) : Prop := a.2 ≤ 3 ∧ 0 ≤ a.1 ∧ a.1 < (60 : Int) ^ a.2
def outCkb (ps : List (List UInt8)) (a : Int × Nat) : Odate_clock_0b := match clockGo (ps.drop a.2) a.1 (a.2 : Int) with
  | (m, true) => .x1 m (svs ps)
  | (m, false) => .x0 0 false m (svs ps)
theorem l_Ckb (ps : List (List UInt8)) (h3 : ps.length = 3) {a : Int × Nat} (h : PCkb a) : loopF (Rdate_clock_0b (tabK tbKk) some) (encCkb ps) PCkb (outCkb ps) (encCkb ps a) = some (outCkb ps a) := by
  refine loopF_eq (fun a => 3 - a.2) ?_ (fun x y h => by
    obtain ⟨x1, x2⟩ := x
    obtain ⟨y1, y2⟩ := y
    simp [encCkb] at h
    obtain ⟨rfl, h⟩ := h
    rw [show x2 = y2 by omega]) h
  rintro ⟨n, i⟩ rec ⟨hl, hn0, hn⟩ hrec
  simp only [] at hl hn0 hn
  simp only [encCkb, Rdate_clock_0b]
  by_cases hi : i < 3
  · have hlt : i < ps.length := by omega
    rw [br_yesD (by omega), br_yesD (by omega), br_yesD (by first | omega | (rw [svs_length]; omega)), Nat.zero_add, Int.toNat_natCast, svs_get _ _ hlt]
    simp only [optK_s, asStr_v]
    rw [kKk_num (by decide)]
    have hr := numB_range ps[i] 2 2 (by decide)
    have hcl : clockGo (List.drop i ps) n (i : Int) = match !(numB ps[i] 2 2).2 || (decide ((numB ps[i] 2 2).1 > 59) || ((i : Int) == 0 && decide ((numB ps[i] 2 2).1 > 23))) with
        | true => (n, false)
        | false => clockGo (List.drop (i + 1) ps) (n * 60 + (numB ps[i] 2 2).1) ((i : Int) + 1) := by
      rw [List.drop_eq_getElem_cons hlt]; rfl
    simp only [outCkb, hcl]
    generalize numB ps[i] 2 2 = p at hr ⊢
    obtain ⟨x, ok⟩ := p
    simp only [optK_s, pairIB]
    rw [asTup_v _ 2 rfl]
    simp only [List.getD_cons_zero, List.getD_cons_succ, asInt_v, asBool_v]
    have e : (br (!ok) (some (bv true)) (br (decide (x > 59)) (some (bv true)) (br ((i : Int) == 0) (some (bv (decide (x > 23)))) (some (bv false)))))
        = some (bv (!ok || (decide (x > 59) || ((i : Int) == 0 && decide (x > 23))))) := by
      cases ok <;> cases decide (x > 59) <;> cases ((i : Int) == 0) <;> rfl
    rw [e]
    simp only [optK_s, asBool_v]
    cases hb : (!ok || (decide (x > 59) || ((i : Int) == 0 && decide (x > 23)))) with
    | true => rfl
    | false =>
      have h59 : x ≤ 59 := by
        revert hb; cases ok <;> simp <;> omega
      simp only [] at hr
      have hi3 : i = 0 ∨ i = 1 ∨ i = 2 := by omega
      have hn' : n ≤ 360000000 ∧ n * 60 + x < (60 : Int) ^ (i + 1) := by
        rcases hi3 with rfl | rfl | rfl <;> simp at hn ⊢ <;> omega
      rw [br_f, w64_id (n := n * 60) (by omega) (by omega), w64_id (n := n * 60 + x) (by omega) (by omega), w64_id (n := (i : Int) + 1) (by omega) (by omega)]
      have := hrec (n * 60 + x, i + 1) ⟨by simp only []; omega, by simp only []; omega, hn'.2⟩ (by simp only []; omega)
      simp only [encCkb, outCkb] at this
      rw [show ((i : Int) + 1) = ((i + 1 : Nat) : Int) by omega]
      exact this
  · rw [br_noD (by omega)]
    simp only [outCkb]
    rw [List.drop_of_length_le (by omega)]
    rfl

def clkP (l : List UInt8) (short : Bool) : List (List UInt8) := if short && decide ((splitL 58 l).length = 2) then splitL 58 l ++ [[48, 48]] else splitL 58 l
def clockB (l : List UInt8) (short : Bool) : Int × Bool :=
  if (clkP l short).length = 3 then (match clockGo (clkP l short) 0 0 with | (n, true) => (n, true) | (_, false) => (0, false)) else (0, false)
set_option maxHeartbeats 1000000 in
theorem t_clock (l : List UInt8) (short : Bool) (hl : l.length ≤ 1000000) : Rdate_clock (tabK tbKk) (lOf (inv_kg 58) (out_kg 58)) (loopF (Rdate_clock_0 (tabK tbKk) some) (encCk (clkP l short)) PCk (outCk (clkP l short))) (loopF (Rdate_clock_0b (tabK tbKk) some) (encCkb (clkP l short)) PCkb (outCkb (clkP l short))) (bs l) short = some (pairIB (clockB l short)) := by
  unfold Rdate_clock
  have hcl : l.count 58 ≤ l.length := List.count_le_length
  rw [show tabK tbKk f_strings_Count [sv (bs l), sv { data := #[58] }] = some (iv ((bs l).data.toList.count 58 : Nat)) from rfl, bs_list]
  simp only [optK_s, asInt_v]
  have hif : (if w64 (((bs l).size : Int) + 1) < w64 ((l.count 58 : Nat) + 1) then w64 (((bs l).size : Int) + 1) else w64 ((l.count 58 : Nat) + 1)) = (l.count 58 : Nat) + 1 := by
    rw [bs_size, w64_id (n := (l.count 58 : Int) + 1) (by omega) (by omega), w64_id (n := (l.length : Int) + 1) (by omega) (by omega)]
    rw [if_neg (by omega)]
  simp only [hif]
  have hto : ((l.count 58 : Int) + 1).toNat = l.count 58 + 1 := by omega
  rw [hto, br_yesD (by omega), br_yesD (by omega)]
  rw [br_pos (by simp only [lenOk, maxBytes, Bool.and_eq_true]; constructor <;> (rw [Nat.ble_eq]; omega))]
  rw [w64_id (n := (l.count 58 : Int) + 1 - 1) (by omega) (by omega)]
  rw [show ({ data := #[58] } : ByteArray) = bs [58] from rfl, emp, lOf_pos (i_kg (c := 58) ⟨rfl, rfl, by omega, by rw [bs_size]; omega, by rw [bs_list]; omega, by omega, by simp⟩)]
  simp only [optK_s, out_kg, Odate_clock_strings_genSplit_0.k, bs_list]
  have hlen := splitL_length 58 l
  have hne := splitL_ne 58 l
  have hd : (splitL 58 l).dropLast.length = l.count 58 := by simp; omega
  have hobj : (List.take (0 : Int).toNat (List.replicate (l.count 58 + 1) (sv (bs []))) ++ svs (splitL 58 l).dropLast ++ List.drop ((l.count 58 : Int) + 1 - 1).toNat (List.replicate (l.count 58 + 1) (sv (bs [])))) =
      svs (splitL 58 l).dropLast ++ [sv (bs [])] := by
    rw [show ((l.count 58 : Int) + 1 - 1).toNat = l.count 58 by omega]
    simp [List.drop_replicate]
  rw [hobj]
  have hsl : (svs (splitL 58 l).dropLast).length = l.count 58 := by rw [← hd]; simp [svs]
  rw [show (l.count 58 : Int) + 1 - 1 = (l.count 58 : Nat) by omega]
  rw [w64_id (n := ((l.count 58 : Nat) : Int) + 1) (by omega) (by omega)]
  have hl1 : (svs (splitL 58 l).dropLast ++ [sv (bs [])]).length = l.count 58 + 1 := by rw [List.length_append, hsl]; rfl
  have hset : (svs (splitL 58 l).dropLast ++ [sv (bs [])]).set (0 + ((l.count 58 : Nat) : Int).toNat) (sv (bs ((splitL 58 l).getLast (splitL_ne 58 l)))) = svs (splitL 58 l) := by
    rw [Nat.zero_add, show ((l.count 58 : Nat) : Int).toNat = l.count 58 by omega, List.set_append_right _ _ (by omega), hsl, Nat.sub_self]
    simp only [List.set_cons_zero]
    have := List.dropLast_concat_getLast hne
    conv => rhs; rw [← this]
    simp [svs]
  rw [br_yesD (by omega), br_yesD (by rw [hl1]; omega), br_yesD (by omega), br_yesD (by rw [List.length_set, hl1]; omega), hset, hto]
  rw [← hlen]
  have hPl : (splitL 58 l).length ≤ 1000001 := by omega
  clear hobj hset hl1 hsl hd hne hlen
  generalize hP : splitL 58 l = P at hPl ⊢
  have hask : br short (some (bv (((P.length : Nat) : Int) == 2))) (some (bv false)) = some (bv (short && decide (P.length = 2))) := by
    cases short with
    | false => rfl
    | true =>
      simp only [br_t, Bool.true_and]
      refine congrArg (fun b => some (bv b)) ?_
      rw [Bool.eq_iff_iff, beq_iff_eq, decide_eq_true_eq]
      omega
  rw [hask]
  simp only [optK_s, asBool_v]
  cases hs : (short && decide (P.length = 2)) with
  | true =>
    have h2 : P.length = 2 := by simp at hs; exact hs.2
    have hc : clkP l short = P ++ [[48, 48]] := by unfold clkP; rw [hP, hs]; rfl
    rw [br_t, svs_length, br_pos (by simp), List.take_of_length_le (by rw [svs_length]; omega)]
    rw [show (svs P ++ [sv { data := #[48, 48] }]) = svs (P ++ [[48, 48]]) by simp [svs]; rfl, ← hc]
    have hl3 : (clkP l short).length = 3 := by rw [hc]; simp [h2]
    rw [br_pos (lenOks_of (by omega) (by rw [svs_length, h2]; decide)), svs_length, hl3, br_neg (by decide)]
    have hk := l_Ck (clkP l short) hl3 (a := (0, 0)) ⟨by decide, by decide, by decide⟩
    have hk' : loopF (Rdate_clock_0 (tabK tbKk) some) (encCk (clkP l short)) PCk (outCk (clkP l short)) (.s0 0 ((3 : Nat) : Int) 0 (svs (clkP l short))) = some (outCk (clkP l short) (0, 0)) := hk
    rw [hk']
    simp only [optK_s, outCk, List.drop_zero]
    unfold clockB
    rw [if_pos hl3]
    show (match clockGo (clkP l short) 0 0 with | (m, true) => Odate_clock_0.x1 m (svs (clkP l short)) | (m, false) => .x0 0 false m (svs (clkP l short))).k _ _ = _
    generalize clockGo (clkP l short) 0 0 = p
    obtain ⟨n, ok⟩ := p
    cases ok <;> rfl
  | false =>
    have hc : clkP l short = P := by unfold clkP; rw [hP, hs]; rfl
    rw [br_f]
    by_cases h3 : P.length = 3
    · have hl3 : (clkP l short).length = 3 := by rw [hc]; exact h3
      rw [br_neg (by rw [h3]; rfl), h3, ← hc]
      have hk := l_Ckb (clkP l short) hl3 (a := (0, 0)) ⟨by decide, by decide, by decide⟩
      have hk' : loopF (Rdate_clock_0b (tabK tbKk) some) (encCkb (clkP l short)) PCkb (outCkb (clkP l short)) (.s0 0 3 ((3 : Nat) : Int) 0 (svs (clkP l short))) = some (outCkb (clkP l short) (0, 0)) := hk
      rw [hk']
      simp only [optK_s, outCkb, List.drop_zero]
      unfold clockB
      rw [if_pos hl3]
      show (match clockGo (clkP l short) 0 0 with | (m, true) => Odate_clock_0b.x1 m (svs (clkP l short)) | (m, false) => .x0 0 false m (svs (clkP l short))).k _ _ = _
      generalize clockGo (clkP l short) 0 0 = p
      obtain ⟨n, ok⟩ := p
      cases ok <;> rfl
    · rw [br_pos (by simp; omega)]
      unfold clockB
      rw [if_neg (by rw [hc]; exact h3)]
      rfl
abbrev encKb (x : List UInt8 × Bool) : List AV := [sv (bs x.1), bv x.2]
noncomputable abbrev E_clock := callF X f_date_clock encKb (fun x => x.1.length ≤ 1000000) fun x => pairIB (clockB x.1 x.2)
theorem k_clock {T : Tab} (hT : tabK T f_date_clock = E_clock) (l : List UInt8) (b : Bool) (h : l.length ≤ 1000000) : tabK T f_date_clock [sv (bs l), bv b] = some (pairIB (clockB l b)) := by
  rw [hT]
  exact callF_eq (enc := encKb) (P := fun x => x.1.length ≤ 1000000) (f := fun x => pairIB (clockB x.1 x.2)) (fun x hx => pcdate_clock (tab_ok _ tbKk_ok) (l_kg 58) loopF_ok loopF_ok (t_clock x.1 x.2 hx)) (fun x y h => by
    obtain ⟨x1, x2⟩ := x
    obtain ⟨y1, y2⟩ := y
    simp only [encKb, List.cons.injEq, AV.v.injEq, Value.string.injEq, Value.bool.injEq, bs_inj_iff, and_true] at h
    rw [h.1, h.2]) (a := (l, b)) h
end Go.Proofs.YtmiffikcnkgcpaaGreatDoor
