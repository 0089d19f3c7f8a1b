import Derived.Test.YtmiffikcnkgcpaaDoorDateH
import Derived.Test.YtmiffikcnkgcpaaDoorToldLaw
import Derived.Test.YtmiffikcnkgcpaaDoorMemo
set_option linter.unusedVariables false
set_option linter.unusedSimpArgs false
set_option maxRecDepth 100000
namespace Go.Proofs.YtmiffikcnkgcpaaDoor
/- The law DateZones, plain, and whole. -/
open Go Go.Ab

def e_aliveZ : List AV → Option AV
  | [] => some (bv true)
  | _ => none
theorem e_aliveZ_ok (xs : List AV) (v : AV) (h : e_aliveZ xs = some v) : PureCall X f_law07_alive xs v := by
  unfold e_aliveZ at h
  split at h
  · cases h; exact pc_alive
  · cases h
def tbZo : Tab := [(f_law07_alive, e_aliveZ), (f_date_Print, e_Print), (f_date_Parse, e_Parse)]
theorem tbZo_ok : TabOk X tbZo := tab_cons e_aliveZ_ok (tab_cons e_Print_ok (tab_cons e_Parse_ok tab_nil))
theorem kZ_alive : tabK tbZo f_law07_alive [] = some (bv true) := rfl
theorem kZ_Print {t : Int} (h : t ≤ 9000000000000000000) : tabK tbZo f_date_Print [iv t] = some (if t < 0 ∨ t > 253402300799 then .tup [sv (bs []), iv 15] else .tup [sv (bs (printL t)), iv 0]) := br_yesD h
theorem kZ_Parse {l : List UInt8} (h : l.all asc = true) : tabK tbZo f_date_Parse [sv (bs l)] = some (pairII (parseB l)) := by
  show br ((bs l).data.toList.all asc) (some (pairII (parseB (bs l).data.toList))) none = _
  rw [bs_list, br_pos h]

/-- A printed time, of any month's letters and any zone's. -/
def formL (y d h i s : Int) (nm zone : List UInt8) : List UInt8 :=
  domL d ++ 45 :: (nm ++ 45 :: (twoL (y / 100) ++ twoL (y % 100))) ++ 32 :: (twoL h ++ 58 :: (twoL i ++ 58 :: twoL s)) ++ 32 :: zone

theorem print_form {t : Int} (h0 : 0 ≤ t) (h1 : t ≤ 253402300799) : ∃ y m d, Civil (t / 86400) y m d ∧ 1970 ≤ y ∧ y ≤ 9999 ∧
    printL t = formL y d (t % 86400 / 3600) (t % 86400 / 60 % 60) (t % 86400 % 60) (nameAt (m - 1)) [43, 48, 48, 48, 48] := by
  obtain ⟨hc, hy, hy2⟩ := civI_spec (day := t / 86400) (by omega) (by omega)
  refine ⟨_, _, _, hc, hy, hy2, ?_⟩
  unfold printL formL
  simp only [List.append_assoc, List.cons_append, List.nil_append]

theorem zone_east (h : Int) (h0 : 0 ≤ h) (h1 : h < 24) : zoneB [43, digU (h / 10), digU h, 48, 48] = (3600 * h, true) := by
  have all : ∀ a : Fin 24, zoneB [43, digU ((a.val : Int) / 10), digU (a.val : Int), 48, 48] = (3600 * (a.val : Int), true) := by decide +kernel
  have := all ⟨h.toNat, by omega⟩
  simp only [Int.toNat_of_nonneg h0] at this
  exact this
theorem zone_west (h : Int) (h0 : 0 ≤ h) (h1 : h < 24) : zoneB [45, digU (h / 10), digU h, 51, 48] = (-(3600 * h + 1800), true) := by
  have all : ∀ a : Fin 24, zoneB [45, digU ((a.val : Int) / 10), digU (a.val : Int), 51, 48] = (-(3600 * (a.val : Int) + 1800), true) := by decide +kernel
  have := all ⟨h.toNat, by omega⟩
  simp only [Int.toNat_of_nonneg h0] at this
  exact this
def flip (b : UInt8) : UInt8 := b ^^^ 32
theorem names_flip (i j : Int) (h0 : 0 ≤ i) (h1 : i < 12) (j0 : 0 ≤ j) (j1 : j < 12) : eqFold (nameAt i) ((nameAt j).map flip) = decide (i = j) := by
  have all : ∀ a : Fin 12, ∀ b : Fin 12, eqFold (nameAt (a.val : Int)) ((nameAt (b.val : Int)).map flip) = decide ((a.val : Int) = (b.val : Int)) := by decide +kernel
  have := all ⟨i.toNat, by omega⟩ ⟨j.toNat, by omega⟩
  simp only [Int.toNat_of_nonneg h0, Int.toNat_of_nonneg j0] at this
  exact this
theorem name_flip {j : Int} (j0 : 0 ≤ j) (j1 : j < 12) : ∃ a b c, nameAt j = [a, b, c] ∧ a ≠ 45 ∧ b ≠ 45 ∧ c ≠ 45 ∧ asc a = true ∧ asc b = true ∧ asc c = true ∧
    flip a ≠ 45 ∧ flip b ≠ 45 ∧ flip c ≠ 45 ∧ asc (flip a) = true ∧ asc (flip b) = true ∧ asc (flip c) = true := by
  have : j = 0 ∨ j = 1 ∨ j = 2 ∨ j = 3 ∨ j = 4 ∨ j = 5 ∨ j = 6 ∨ j = 7 ∨ j = 8 ∨ j = 9 ∨ j = 10 ∨ j = 11 := by omega
  rcases this with rfl | rfl | rfl | rfl | rfl | rfl | rfl | rfl | rfl | rfl | rfl | rfl <;>
    exact ⟨_, _, _, rfl, by decide, by decide, by decide, by decide, by decide, by decide, by decide, by decide, by decide, by decide, by decide, by decide⟩

theorem dig_asc (n : Int) : asc (digU n) = true := by
  have := digU_nat n
  simp only [asc, decide_eq_true_eq]
  omega
theorem form_asc {y d h i s : Int} {nm zone : List UInt8} (h1 : 1 ≤ d) (h2 : d ≤ 31) (hn : nm.all asc = true) (hz : zone.all asc = true) : (formL y d h i s nm zone).all asc = true := by
  obtain ⟨p, q, hdom, _, _, _, hp, hq⟩ := dom_ok (d := d) h1 h2
  unfold formL
  rw [hdom]
  simp only [twoL, List.all_append, List.all_cons, List.all_nil, hn, hz, hp, hq, dig_asc]
  decide

theorem flip_num (a : UInt8) : UInt8.ofNat (w8 (((BitVec.ofInt 8 (a.toNat : Int) ^^^ BitVec.ofInt 8 32).toNat : Nat) : Int)).toNat = flip a := by
  have all : ∀ a : Fin 256, UInt8.ofNat (w8 (((BitVec.ofInt 8 (((UInt8.ofNat a.val).toNat : Nat) : Int) ^^^ BitVec.ofInt 8 32).toNat : Nat) : Int)).toNat = flip (UInt8.ofNat a.val) := by decide +kernel
  have := all ⟨a.toNat, a.toNat_lt⟩
  simpa using this

noncomputable def loopZ (s : Slaw07_DateZones_0) : Option Olaw07_DateZones_0 := fuelRec (Rlaw07_DateZones_0 (tabK tbZo) some) 4 s
theorem loopZ_ok : ∀ s o, loopZ s = some o → ∃ k, fuelRec (Rlaw07_DateZones_0 (tabK tbZo) some) k s = some o := fun s o h => ⟨4, h⟩

theorem loopZ_run (T H x f y g : Int) (a0 a1 a2 b0 b1 b2 c0 c1 c2 c3 c4 c5 c6 c7 c8 c9 c10 c11 c12 c13 c14 c15 c16 c17 c18 c19 : Int) :
    loopZ (.s0 T H x f y g 3 [uv a0, uv a1, uv a2, uv b0, uv b1, uv b2, uv c0, uv c1, uv c2, uv c3, uv c4, uv c5, uv c6, uv c7, uv c8, uv c9, uv c10, uv c11, uv c12, uv c13, uv c14, uv c15, uv c16, uv c17, uv c18, uv c19])
      = some (.x0 T H x f y g [uv a0, uv a1, uv a2, uv (w8 (((BitVec.ofInt 8 b0 ^^^ BitVec.ofInt 8 32).toNat : Nat) : Int)), uv (w8 (((BitVec.ofInt 8 b1 ^^^ BitVec.ofInt 8 32).toNat : Nat) : Int)), uv (w8 (((BitVec.ofInt 8 b2 ^^^ BitVec.ofInt 8 32).toNat : Nat) : Int)),
          uv c0, uv c1, uv c2, uv c3, uv c4, uv c5, uv c6, uv c7, uv c8, uv c9, uv c10, uv c11, uv c12, uv c13, uv c14, uv c15, uv c16, uv c17, uv c18, uv c19]) := by
  kernel_rfl

theorem and_mask36 (t : Int) : w64 ((((BitVec.ofInt 64 t &&& BitVec.ofInt 64 68719476735).toNat : Nat) : Int)) = t % 68719476736 := by
  have e : (BitVec.ofInt 64 t &&& BitVec.ofInt 64 68719476735).toNat = (t % 68719476736).toNat := by
    rw [BitVec.toNat_and]
    rw [show (BitVec.ofInt 64 68719476735).toNat = 2 ^ 36 - 1 from rfl, Nat.and_two_pow_sub_one_eq_mod, BitVec.toNat_ofInt]
    have : (t % ((2 ^ 64 : Nat) : Int)).toNat % 2 ^ 36 = (t % 68719476736).toNat := by
      have h1 : ((2 ^ 64 : Nat) : Int) = 18446744073709551616 := by decide
      rw [h1]
      have h2 : (2 : Nat) ^ 36 = 68719476736 := by decide
      rw [h2]
      omega
    exact this
  rw [e]
  have : ((t % 68719476736).toNat : Int) = t % 68719476736 := by omega
  rw [this, w64_id (by omega) (by omega)]

theorem form26 {y d h i s : Int} {n0 n1 n2 z0 z1 z2 z3 z4 : UInt8} (h1 : 1 ≤ d) (h2 : d ≤ 31) : ∃ p q, domL d = [p, q] ∧ formL y d h i s [n0, n1, n2] [z0, z1, z2, z3, z4] =
    [p, q, 45, n0, n1, n2, 45, digU (y / 100 / 10), digU (y / 100), digU (y % 100 / 10), digU (y % 100), 32, digU (h / 10), digU h, 58, digU (i / 10), digU i, 58, digU (s / 10), digU s, 32, z0, z1, z2, z3, z4] := by
  obtain ⟨p, q, hdom, _, _, _, hp, hq⟩ := dom_ok (d := d) h1 h2
  exact ⟨p, q, hdom, by unfold formL; rw [hdom]; rfl⟩

theorem u8_ofNat (a : UInt8) : UInt8.ofNat ((a.toNat : Int)).toNat = a := by simp

theorem rowsB_cons {n : Int} {l : List AV} {r : List UInt8} (h : rowsBytes l = some r) : rowsBytes (uv n :: l) = some (UInt8.ofNat n.toNat :: r) := by
  unfold rowsBytes at h ⊢
  rw [List.mapM_cons, h]; rfl
theorem rowsB_c {a : UInt8} {l : List AV} {r : List UInt8} (h : rowsBytes l = some r) : rowsBytes (uv (a.toNat : Int) :: l) = some (a :: r) := by rw [rowsB_cons h, u8_ofNat]
theorem rowsB_f {a : UInt8} {l : List AV} {r : List UInt8} (h : rowsBytes l = some r) : rowsBytes (uv (w8 (((BitVec.ofInt 8 (a.toNat : Int) ^^^ BitVec.ofInt 8 32).toNat : Nat) : Int)) :: l) = some (flip a :: r) := by rw [rowsB_cons h, flip_num]
theorem rows26 (a0 a1 a2 b0 b1 b2 c0 c1 c2 c3 c4 c5 c6 c7 c8 c9 c10 c11 c12 c13 c14 c15 c16 c17 c18 c19 : UInt8) : rowsBytes [uv (a0.toNat : Int), uv (a1.toNat : Int), uv (a2.toNat : Int), uv (w8 (((BitVec.ofInt 8 (b0.toNat : Int) ^^^ BitVec.ofInt 8 32).toNat : Nat) : Int)), uv (w8 (((BitVec.ofInt 8 (b1.toNat : Int) ^^^ BitVec.ofInt 8 32).toNat : Nat) : Int)), uv (w8 (((BitVec.ofInt 8 (b2.toNat : Int) ^^^ BitVec.ofInt 8 32).toNat : Nat) : Int)), uv (c0.toNat : Int), uv (c1.toNat : Int), uv (c2.toNat : Int), uv (c3.toNat : Int), uv (c4.toNat : Int), uv (c5.toNat : Int), uv (c6.toNat : Int), uv (c7.toNat : Int), uv (c8.toNat : Int), uv (c9.toNat : Int), uv (c10.toNat : Int), uv (c11.toNat : Int), uv (c12.toNat : Int), uv (c13.toNat : Int), uv (c14.toNat : Int), uv (c15.toNat : Int), uv (c16.toNat : Int), uv (c17.toNat : Int), uv (c18.toNat : Int), uv (c19.toNat : Int)] = some [a0, a1, a2, flip b0, flip b1, flip b2, c0, c1, c2, c3, c4, c5, c6, c7, c8, c9, c10, c11, c12, c13, c14, c15, c16, c17, c18, c19] := by
  iterate 3 refine rowsB_c ?_
  iterate 3 refine rowsB_f ?_
  iterate 20 refine rowsB_c ?_
  rfl
theorem ble_str {n : Nat} (h : n ≤ 1000000) : n.ble maxStr = true := Nat.ble_eq_true_of_le (by unfold maxStr; omega)
theorem t_zones (t h : Int) (h0 : 0 ≤ h) (h1 : h < 256) : Rlaw07_DateZones (tabK tbZo) loopZ t h = some (bv true) := by
  unfold Rlaw07_DateZones
  simp only [and_mask36]
  have ht0 : 0 ≤ t % 68719476736 := by omega
  have ht1 : t % 68719476736 < 68719476736 := by omega
  generalize t % 68719476736 = T' at ht0 ht1 ⊢
  rw [w64_id (n := h) (by omega) (by omega), w64_id (n := 1000000 + T') (by omega) (by omega)]
  obtain ⟨T, hT⟩ : ∃ T, T = 1000000 + T' := ⟨_, rfl⟩
  rw [← hT]
  have hT0 : 1000000 ≤ T := by omega
  have hT1 : T < 69719476736 := by omega
  clear hT ht0 ht1
  rw [tmodP h0]
  have hH0 : 0 ≤ h % 24 := by omega
  have hH1 : h % 24 < 24 := by omega
  generalize h % 24 = H at hH0 hH1 ⊢
  clear h0 h1
  have hz : ({ data := [UInt8.ofNat (w8 (w64 (48 + H.tmod 10))).toNat, UInt8.ofNat (w8 (w64 (48 + w64 (H.tdiv 10)))).toNat].reverse.toArray } : ByteArray) = bs [digU (H / 10), digU H] := by
    rw [tdivP hH0, tmodP hH0, w64_id (n := H / 10) (by omega) (by omega), w64_id (n := 48 + H % 10) (by omega) (by omega), w64_id (n := 48 + H / 10) (by omega) (by omega), w8_id (by omega) (by omega), w8_id (by omega) (by omega)]
    unfold digU
    rw [show H / 10 % 10 = H / 10 by omega]
    rfl
  rw [hz]
  rw [kZ_alive, kZ_Print (by omega), if_neg (by omega)]
  simp only [optK_s, asBool_v, Bool.not_true, br_f]
  rw [asTup_v _ 2 rfl]
  simp only [List.getD_cons_zero, List.getD_cons_succ, asInt_v, asStr_v]
  obtain ⟨y, m, d, hc, hy, hy2, hp⟩ := print_form (t := T) (by omega) (by omega)
  have hth := Civil_there hc (by omega) hy2
  have hdd := there_day hth
  have hday := Civil_day hc
  obtain ⟨n0, n1, n2, hn, na, nb, nc, xa, xb, xc, fa, fb, fc, ya, yb, yc⟩ := name_flip (j := m - 1) (by have := hc.m1; omega) (by have := hc.m2; omega)
  have hm : ∀ i : Int, 0 ≤ i → i < 12 → eqFold (nameAt i) [n0, n1, n2] = decide (i = m - 1) := by
    intro i i0 i1
    rw [← hn]
    exact names_tell i (m - 1) i0 i1 (by have := hc.m1; omega) (by have := hc.m2; omega)
  have hf : ∀ i : Int, 0 ≤ i → i < 12 → eqFold (nameAt i) [flip n0, flip n1, flip n2] = decide (i = m - 1) := by
    intro i i0 i1
    have : [flip n0, flip n1, flip n2] = (nameAt (m - 1)).map flip := by rw [hn]; rfl
    rw [this]
    exact names_flip i (m - 1) i0 i1 (by have := hc.m1; omega) (by have := hc.m2; omega)
  rw [hn] at hp
  have hs0 : 0 ≤ T % 86400 := by omega
  have hs1 : T % 86400 < 86400 := by omega
  have hsum : (yday y + mday y m + d - 1) * 86400 + (T % 86400 / 3600 * 3600 + T % 86400 / 60 % 60 * 60 + T % 86400 % 60) = T := by
    rw [hday]; omega
  have pf : ∀ {a b c z0 z1 z2 z3 z4 : UInt8} {z : Int}, (∀ i : Int, 0 ≤ i → i < 12 → eqFold (nameAt i) [a, b, c] = decide (i = m - 1)) → a ≠ 45 → b ≠ 45 → c ≠ 45 → zoneB [z0, z1, z2, z3, z4] = (z, true) → 0 ≤ T - z → T - z ≤ 253402300799 →
      parseB (formL y d (T % 86400 / 3600) (T % 86400 / 60 % 60) (T % 86400 % 60) [a, b, c] [z0, z1, z2, z3, z4]) = (T - z, 0) := by
    intro a b c z0 z1 z2 z3 z4 z hm ha hb hc' hz hz0 hz1
    unfold formL
    rw [parse_form (m := m) (by omega) hy2 hc.m1 hc.m2 hth hm ha hb hc' (by omega) (by omega) (by omega) (by omega) (by omega) (by omega) hz, hsum, if_neg (by omega)]
  have fas : ∀ {nm zone : List UInt8}, nm.all asc = true → zone.all asc = true → (formL y d (T % 86400 / 3600) (T % 86400 / 60 % 60) (T % 86400 % 60) nm zone).all asc = true := fun h1 h2 => form_asc hdd.2.2.2.2.1 hdd.2.2.2.2.2 h1 h2
  obtain ⟨p, q, hdom, h26⟩ := form26 (y := y) (d := d) (h := T % 86400 / 3600) (i := T % 86400 / 60 % 60) (s := T % 86400 % 60) (n0 := n0) (n1 := n1) (n2 := n2) (z0 := 43) (z1 := 48) (z2 := 48) (z3 := 48) (z4 := 48) hdd.2.2.2.2.1 hdd.2.2.2.2.2
  obtain ⟨p', q', hdom', h26'⟩ := form26 (y := y) (d := d) (h := T % 86400 / 3600) (i := T % 86400 / 60 % 60) (s := T % 86400 % 60) (n0 := flip n0) (n1 := flip n1) (n2 := flip n2) (z0 := 43) (z1 := 48) (z2 := 48) (z3 := 48) (z4 := 48) hdd.2.2.2.2.1 hdd.2.2.2.2.2
  have e := hdom.symm.trans hdom'
  simp only [List.cons.injEq, and_true] at e
  obtain ⟨rfl, rfl⟩ := e
  rw [hp]
  have hlen : ((bs (formL y d (T % 86400 / 3600) (T % 86400 / 60 % 60) (T % 86400 % 60) [n0, n1, n2] [43, 48, 48, 48, 48])).size : Int) = 26 := by rw [bs_size, h26]; rfl
  rw [hlen, cut_to]
  have h21 : ∀ z : List UInt8, (formL y d (T % 86400 / 3600) (T % 86400 / 60 % 60) (T % 86400 % 60) [n0, n1, n2] [43, 48, 48, 48, 48]).take (21 : Int).toNat ++ z = formL y d (T % 86400 / 3600) (T % 86400 / 60 % 60) (T % 86400 % 60) [n0, n1, n2] z := by
    intro z
    unfold formL
    rw [hdom]
    rfl
  have h21l : ((formL y d (T % 86400 / 3600) (T % 86400 / 60 % 60) (T % 86400 % 60) [n0, n1, n2] [43, 48, 48, 48, 48]).take (21 : Int).toNat).length = 21 := by rw [h26]; rfl
  rw [show ({ data := #[43] } : ByteArray) = bs [43] from rfl, show ({ data := #[45] } : ByteArray) = bs [45] from rfl, show ({ data := #[48, 48] } : ByteArray) = bs [48, 48] from rfl, show ({ data := #[51, 48] } : ByteArray) = bs [51, 48] from rfl]
  simp only [bs_append, List.append_assoc, bs_size, List.length_append, h21l, List.length_cons, List.length_nil, h21, List.cons_append, List.nil_append]
  have b0 : ((0 : Int) != 0) = false := rfl
  have b1 : ((26 : Int) != 26) = false := rfl
  have b2 : decide ((21 : Int) ≤ 26) = true := rfl
  have b3 : (21 + (0 + 1)).ble maxStr = true := ble_str (by decide)
  have b4 : (21 + (0 + 1) + (0 + 1 + 1)).ble maxStr = true := ble_str (by decide)
  have b5 : (21 + (0 + 1) + (0 + 1 + 1) + 2).ble maxStr = true := ble_str (by decide)
  simp only [b0, b1, b2, b3, b4, b5, br_t, br_f, optK_s, asBool_v]
  have hfl : ∀ z : UInt8, (formL y d (T % 86400 / 3600) (T % 86400 / 60 % 60) (T % 86400 % 60) [n0, n1, n2] [z]).length = 22 := by
    intro z
    rw [← h21, List.length_append, h21l]; rfl
  have hap : ∀ z w : List UInt8, formL y d (T % 86400 / 3600) (T % 86400 / 60 % 60) (T % 86400 % 60) [n0, n1, n2] z ++ w = formL y d (T % 86400 / 3600) (T % 86400 / 60 % 60) (T % 86400 % 60) [n0, n1, n2] (z ++ w) := by
    intro z w
    rw [← h21, List.append_assoc, h21]
  simp only [hfl, hap, List.cons_append, List.nil_append]
  have b6 : (22 + (0 + 1 + 1)).ble maxStr = true := ble_str (by decide)
  have b7 : (22 + (0 + 1 + 1) + 2).ble maxStr = true := ble_str (by decide)
  rw [b6, b7]
  simp only [br_t]
  have dz : ∀ n, asc (digU n) = true := dig_asc
  have hna : [n0, n1, n2].all asc = true := by simp [xa, xb, xc]
  have hnf : [flip n0, flip n1, flip n2].all asc = true := by simp [ya, yb, yc]
  rw [kZ_Parse (fas hna (by simp [dz]; decide)), pf hm na nb nc (zone_east H hH0 hH1) (by omega) (by omega)]
  simp only [optK_s, pairII]
  rw [asTup_v _ 2 rfl]
  simp only [List.getD_cons_zero, List.getD_cons_succ, asInt_v]
  rw [kZ_Parse (fas hna (by simp [dz]; decide)), pf hm na nb nc (zone_west H hH0 hH1) (by omega) (by omega)]
  simp only [optK_s, pairII]
  rw [asTup_v _ 2 rfl]
  simp only [List.getD_cons_zero, List.getD_cons_succ, asInt_v]
  rw [bytesRows_bs, h26]
  simp only [List.map_cons, List.map_nil]
  rw [loopZ_run]
  simp only [optK_s, Olaw07_DateZones_0.k]
  rw [rows26]
  simp only [optK_s]
  rw [← h26']
  rw [show ({ data := (formL y d (T % 86400 / 3600) (T % 86400 / 60 % 60) (T % 86400 % 60) [flip n0, flip n1, flip n2] [43, 48, 48, 48, 48]).toArray } : ByteArray) = bs (formL y d (T % 86400 / 3600) (T % 86400 / 60 % 60) (T % 86400 % 60) [flip n0, flip n1, flip n2] [43, 48, 48, 48, 48]) from rfl]
  rw [kZ_Parse (fas hnf (by decide)), pf hf fa fb fc zone0 (by omega) (by omega)]
  simp only [optK_s, pairII]
  rw [asTup_v _ 2 rfl]
  simp only [List.getD_cons_zero, List.getD_cons_succ, asInt_v]
  rw [w64_id (n := 3600 * H) (by omega) (by omega), w64_id (n := T - 3600 * H) (by omega) (by omega), w64_id (n := T + 3600 * H) (by omega) (by omega), w64_id (n := T + 3600 * H + 1800) (by omega) (by omega)]
  rw [show T - -(3600 * H + 1800) = T + 3600 * H + 1800 by omega, Int.sub_zero]
  simp only [beq_self_eq_true, br_t, optK_s, asBool_v]
end Go.Proofs.YtmiffikcnkgcpaaDoor
