import Derived.Test.YtkkbdebmilagoaaGreatDoorSeD
import Derived.Test.YtkkbdebmilagoaaGreatDoorTie
import Derived.Test.YtkkbdebmilagoaaGreatDoorCards
import Derived.Test.YtkkbdebmilagoaaGreatDoorAbShape
import Derived.Test.YtkkbdebmilagoaaGreatDoorAbRead
set_option linter.unusedVariables false
set_option linter.unusedSimpArgs false
set_option maxRecDepth 100000
namespace Go.Proofs.YtkkbdebmilagoaaGreatDoor
/- What a row of r22 says: variables, messages. -/
open Go Go.Ab Go.ChangeShapes Go.WideShapes

theorem own : ownKnob Tryz.prog.godebug = none := by kernel_rfl
theorem laidOut : laidOutB Tryz.prog = true := by kernel_rfl
theorem under4 : Tryz.prog.underlying 4 = some .bool := by kernel_rfl
theorem maxLen_int {W : World} (h : W.ShapedOpen Tryz.prog) : ∃ m, GlobOk (St.init W) 0 (iv m) :=
  glob_int h (g := 0) (t := 3) (of_decide_eq_true (by kernel_rfl)) (zero := #[.int .i64 0]) (k := .i64) (by kernel_rfl) rfl (by kernel_rfl) (by kernel_rfl) (by kernel_rfl)
theorem globsOf {laid : List (String × DataW Unit)} {W : World} (h : laidMet Tryz.prog laid W) {m : Int} (hm : GlobOk (St.init W) 0 (iv m)) (m1 : ("escheat/date.names", Rows.laid_escheat_date_names) ∈ laid) (m2 : ("escheat/date.ahead", Rows.laid_escheat_date_ahead) ∈ laid)
    (m3 : ("strconv.ErrSyntax", Rows.laid_strconv_ErrSyntax) ∈ laid) (m4 : ("strconv.ErrRange", Rows.laid_strconv_ErrRange) ∈ laid) (m5 : ("unicode.asciiFold", Rows.laid_unicode_asciiFold) ∈ laid) (m6 : ("unicode.caseOrbit", Rows.laid_unicode_caseOrbit) ∈ laid)
    (m7 : ("unicode/utf8.first", Rows.laid_unicode_utf8_first) ∈ laid) (m8 : ("unicode/utf8.acceptRanges", Rows.laid_unicode_utf8_acceptRanges) ∈ laid) (g : Nat) (x : AV) (hx : (XM m).G g = some x) : GlobOk (St.init W) g x := by
  have hx : (match Nat.beq g 0 with | true => some (iv m) | false => X.G g) = some x := hx
  cases hg0 : Nat.beq g 0 with
  | true =>
    rw [hg0] at hx
    obtain rfl := Nat.eq_of_beq_eq_true hg0
    cases hx
    exact hm
  | false =>
    rw [hg0] at hx
    have hx : gX g = some x := hx
    unfold gX at hx
    split at hx
    · rename_i p hp
      have hm := List.mem_of_find?_eq_some hp
      have hg := List.find?_some hp
      cases hx
      obtain rfl := Nat.eq_of_beq_eq_true hg
      simp only [gL, List.mem_cons, List.not_mem_nil, or_false] at hm
      rcases hm with rfl | rfl | rfl | rfl | rfl | rfl | rfl | rfl
      · exact glob_rel h (k := 3) m1 (by kernel_rfl) (t := 105) (by kernel_rfl) (by kernel_rfl) (by kernel_rfl)
      · exact glob_rel h (k := 3) m2 (by kernel_rfl) (t := 129) (by kernel_rfl) (by kernel_rfl) (by kernel_rfl)
      · exact glob_junk h m3 (g := 8) (t := 122) (by kernel_rfl) (by kernel_rfl) (by kernel_rfl)
      · exact glob_junk h m4 (g := 9) (t := 122) (by kernel_rfl) (by kernel_rfl) (by kernel_rfl)
      · exact glob_read h (k := 3) m5 (by kernel_rfl) (t := 147) (by kernel_rfl) (by kernel_rfl) (by kernel_rfl)
      · exact glob_read h (k := 4) m6 (by kernel_rfl) (t := 148) (by kernel_rfl) (by kernel_rfl) (by kernel_rfl)
      · exact glob_read h (k := 3) m7 (by kernel_rfl) (t := 166) (by kernel_rfl) (by kernel_rfl) (by kernel_rfl)
      · exact glob_rel h (k := 4) m8 (by kernel_rfl) (t := 169) (by kernel_rfl) (by kernel_rfl) (by kernel_rfl)
    · cases hx
theorem wf_u8 {n : Int} (h : (Lit.int .u8 n).wf = true) : 0 ≤ n ∧ n < 256 := by
  simp [Lit.wf, IntKind.min, IntKind.max, IntKind.signed, IntKind.bits] at h
  omega
theorem wf_u16 {n : Int} (h : (Lit.int .u16 n).wf = true) : 0 ≤ n ∧ n < 65536 := by
  simp [Lit.wf, IntKind.min, IntKind.max, IntKind.signed, IntKind.bits] at h
  omega
theorem wf_i64 {n : Int} (h : (Lit.int .i64 n).wf = true) : -9223372036854775808 ≤ n ∧ n ≤ 9223372036854775807 := by
  simp [Lit.wf, IntKind.min, IntKind.max, IntKind.signed, IntKind.bits] at h
  omega
theorem byte_rows : ∀ {rows : List AV}, (∀ r ∈ rows, ∃ cs, r = rowOf (some false) cs ∧ fitRs [.int .u8] cs) → ∃ l, rows = uvs l
  | [], _ => ⟨[], rfl⟩
  | r :: rows, h => by
    obtain ⟨ps, rfl⟩ := byte_rows fun x hx => h x (List.mem_cons_of_mem _ hx)
    obtain ⟨cs, rfl, hf⟩ := h r List.mem_cons_self
    simp only [fitRs, fitR] at hf
    obtain ⟨c, cs', rfl, ⟨a, rfl, hw⟩, rfl⟩ := hf
    have ha := wf_u8 hw
    refine ⟨UInt8.ofNat a.toNat :: ps, ?_⟩
    have : (((UInt8.ofNat a.toNat).toNat : Nat) : Int) = a := by simp only [UInt8.toNat_ofNat']; omega
    rw [show uvs (UInt8.ofNat a.toNat :: ps) = uv (((UInt8.ofNat a.toNat).toNat : Nat) : Int) :: uvs ps from rfl, this]
    rfl
set_option maxRecDepth 100000 in
theorem msg_arg {H : Type} {enc : TypeId × Value → H} {w : World} {base : Nat} {spare : Nat → Bool} {held : Bool} {v : Value} {d : DataW H} {ps : List MemPlace} (h : DataW.Trod enc Tryz.prog w base spare held 27 v d ps) :
    ∃ x : MsgR, rdV Tryz.prog 4 27 d = x.av ∧ x.fits := by
  have f := Read_fit (n := 4) (by kernel_rfl) h
  rw [show rsh Tryz.prog 4 27 = [.int .i64, .int .i64, .int .i64, .lst 1 false [.int .u8]] by kernel_rfl] at f
  unfold rdV
  rw [show kindT Tryz.prog 27 = some true by kernel_rfl]
  generalize rdC Tryz.prog 4 27 d = l0 at f
  simp only [fitRs] at f
  obtain ⟨c1, cs1, rfl, q1, c2, cs2, rfl, q2, c3, cs3, rfl, q3, c4, cs4, rfl, q4, rfl⟩ := f
  simp only [fitR] at q1 q2 q3 q4
  obtain ⟨m, rfl, _⟩ := q1
  obtain ⟨k, rfl, _⟩ := q2
  obtain ⟨n, rfl, hn⟩ := q3
  obtain ⟨nl, rows, rfl, _, hr⟩ := q4
  obtain ⟨l, rfl⟩ := byte_rows hr
  exact ⟨⟨m, k, n, nl, uvs l⟩, rfl, (wf_i64 hn).2, l, rfl⟩
set_option maxRecDepth 100000 in
theorem u16_arg {H : Type} {enc : TypeId × Value → H} {w : World} {base : Nat} {spare : Nat → Bool} {held : Bool} {v : Value} {d : DataW H} {ps : List MemPlace} (h : DataW.Trod enc Tryz.prog w base spare held 40 v d ps) :
    ∃ n : Int, rdV Tryz.prog 4 40 d = .v (.int .u16 n) ∧ 0 ≤ n ∧ n ≤ 65535 := by
  have f := Read_fit (n := 4) (by kernel_rfl) h
  rw [show rsh Tryz.prog 4 40 = [.int .u16] by kernel_rfl] at f
  unfold rdV
  rw [show kindT Tryz.prog 40 = some false by kernel_rfl]
  generalize rdC Tryz.prog 4 40 d = l0 at f
  simp only [fitRs] at f
  obtain ⟨c1, cs1, rfl, q1, rfl⟩ := f
  simp only [fitR] at q1
  obtain ⟨m, rfl, hm⟩ := q1
  have := wf_u16 hm
  exact ⟨m, rfl, by omega, by omega⟩
end Go.Proofs.YtkkbdebmilagoaaGreatDoor
