/- What calls and loops answer, told of plain data: no decoding. -/
import Derived.Test.YtkkbdebmilagoaaGreatDoorAbStr
set_option linter.unusedVariables false
set_option linter.unusedSimpArgs false
namespace Go.Ab
open Go

/-- A call told of plain data: at `enc a`, where `P a`, an answer of which `Q a` holds. -/
noncomputable def callQ {α : Type} (X : Ctx) (g : FuncId) (enc : α → List AV) (P : α → Prop) (Q : α → AV → Prop) : List AV → Option AV := fun as =>
  open Classical in if h : ∃ v, PureCall X g as v ∧ ∃ a, as = enc a ∧ P a ∧ Q a v then some h.choose else none
theorem callQ_ok {α : Type} {X : Ctx} {g : FuncId} {enc : α → List AV} {P : α → Prop} {Q : α → AV → Prop} (as : List AV) (v : AV) (hv : callQ X g enc P Q as = some v) : PureCall X g as v := by
  unfold callQ at hv
  split at hv
  · rename_i h
    cases hv
    exact h.choose_spec.1
  · cases hv
theorem callQ_rel {α : Type} {X : Ctx} {g : FuncId} {enc : α → List AV} {P : α → Prop} {Q : α → AV → Prop} (hc : ∀ a, P a → ∃ v, Q a v ∧ PureCall X g (enc a) v) {a : α} (h : P a) :
    ∃ v a', callQ X g enc P Q (enc a) = some v ∧ enc a = enc a' ∧ P a' ∧ Q a' v := by
  obtain ⟨v, hq, hp⟩ := hc a h
  have hex : ∃ v, PureCall X g (enc a) v ∧ ∃ a', enc a = enc a' ∧ P a' ∧ Q a' v := ⟨v, hp, a, rfl, h, hq⟩
  obtain ⟨_, a', h1, h2, h3⟩ := hex.choose_spec
  refine ⟨hex.choose, a', ?_, h1, h2, h3⟩
  unfold callQ
  rw [dif_pos hex]
theorem callQ_eq {α : Type} {X : Ctx} {g : FuncId} {enc : α → List AV} {P : α → Prop} {Q : α → AV → Prop} (hc : ∀ a, P a → ∃ v, Q a v ∧ PureCall X g (enc a) v) (inj : ∀ a b, enc a = enc b → ∀ v, Q b v → Q a v) {a : α} (h : P a) :
    ∃ v, Q a v ∧ callQ X g enc P Q (enc a) = some v := by
  obtain ⟨v, a', h1, h2, _, h4⟩ := callQ_rel hc h
  exact ⟨v, inj a a' h2 v h4, h1⟩
/-- With one answer. -/
noncomputable def callF {α : Type} (X : Ctx) (g : FuncId) (enc : α → List AV) (P : α → Prop) (f : α → AV) : List AV → Option AV := callQ X g enc P fun a v => v = f a
theorem callF_eq {α : Type} {X : Ctx} {g : FuncId} {enc : α → List AV} {P : α → Prop} {f : α → AV} (hc : ∀ a, P a → PureCall X g (enc a) (f a)) (inj : ∀ a b, enc a = enc b → f b = f a) {a : α} (h : P a) :
    callF X g enc P f (enc a) = some (f a) := by
  obtain ⟨v, a', h1, h2, h3, h4⟩ := callQ_rel (Q := fun a v => v = f a) (fun a ha => ⟨f a, rfl, hc a ha⟩) h
  unfold callF
  rw [h1, h4, inj a a' h2]

/-- A loop told of plain data. -/
noncomputable def loopQ {α S O : Type} (R : (S → Option O) → S → Option O) (enc : α → S) (P : α → Prop) (Q : α → O → Prop) : S → Option O := fun s =>
  open Classical in if h : ∃ o, (∃ m, fuelRec R m s = some o) ∧ ∃ a, s = enc a ∧ P a ∧ Q a o then some h.choose else none
theorem loopQ_ok {α S O : Type} {R : (S → Option O) → S → Option O} {enc : α → S} {P : α → Prop} {Q : α → O → Prop} : ∀ s o, loopQ R enc P Q s = some o → ∃ m, fuelRec R m s = some o := by
  intro s o hv
  unfold loopQ at hv
  split at hv
  · rename_i h
    cases hv
    exact h.choose_spec.1
  · cases hv
theorem loop_rel {α S O : Type} {R : (S → Option O) → S → Option O} {enc : α → S} {P : α → Prop} {Q : α → O → Prop} (μ : α → Nat)
    (step : ∀ (a : α) (rec : S → Option O), P a → (∀ a', P a' → μ a' < μ a → ∃ o, Q a' o ∧ rec (enc a') = some o) → ∃ o, Q a o ∧ R rec (enc a) = some o) :
    ∀ (n : Nat) (a : α), P a → μ a < n → ∃ o, Q a o ∧ fuelRec R n (enc a) = some o := by
  intro n
  induction n with
  | zero => intro a _ h; exact absurd h (Nat.not_lt_zero _)
  | succ n ih => exact fun a ha hn => step a _ ha fun a' h1 h2 => ih a' h1 (by omega)
theorem loopQ_eq {α S O : Type} {R : (S → Option O) → S → Option O} {enc : α → S} {P : α → Prop} {Q : α → O → Prop} (μ : α → Nat)
    (step : ∀ (a : α) (rec : S → Option O), P a → (∀ a', P a' → μ a' < μ a → ∃ o, Q a' o ∧ rec (enc a') = some o) → ∃ o, Q a o ∧ R rec (enc a) = some o)
    (inj : ∀ a b, enc a = enc b → ∀ o, Q b o → Q a o) {a : α} (h : P a) : ∃ o, Q a o ∧ loopQ R enc P Q (enc a) = some o := by
  obtain ⟨o, hq, hf⟩ := loop_rel μ step _ a h (Nat.lt_succ_self _)
  have hex : ∃ o, (∃ m, fuelRec R m (enc a) = some o) ∧ ∃ a', enc a = enc a' ∧ P a' ∧ Q a' o := ⟨o, ⟨_, hf⟩, a, rfl, h, hq⟩
  refine ⟨hex.choose, ?_, ?_⟩
  · obtain ⟨_, a', h1, _, h3⟩ := hex.choose_spec
    exact inj a a' h1 _ h3
  · unfold loopQ
    rw [dif_pos hex]
/-- The same with one answer, and no word of growth. -/
theorem loop_fun {α S O : Type} {R : (S → Option O) → S → Option O} {enc : α → S} {P : α → Prop} {f : α → O} (μ : α → Nat)
    (step : ∀ (a : α) (rec : S → Option O), P a → (∀ a', P a' → μ a' < μ a → rec (enc a') = some (f a')) → R rec (enc a) = some (f a)) :
    ∀ (n : Nat) (a : α), P a → μ a < n → fuelRec R n (enc a) = some (f a) := by
  intro n
  induction n with
  | zero => intro a _ h; exact absurd h (Nat.not_lt_zero _)
  | succ n ih => exact fun a ha hn => step a _ ha fun a' h1 h2 => ih a' h1 (by omega)
noncomputable def loopF {α S O : Type} (R : (S → Option O) → S → Option O) (enc : α → S) (P : α → Prop) (f : α → O) : S → Option O := loopQ R enc P fun a o => o = f a
theorem loopF_ok {α S O : Type} {R : (S → Option O) → S → Option O} {enc : α → S} {P : α → Prop} {f : α → O} : ∀ s o, loopF R enc P f s = some o → ∃ m, fuelRec R m s = some o := loopQ_ok
theorem loopF_eq {α S O : Type} {R : (S → Option O) → S → Option O} {enc : α → S} {P : α → Prop} {f : α → O} (μ : α → Nat)
    (step : ∀ (a : α) (rec : S → Option O), P a → (∀ a', P a' → μ a' < μ a → rec (enc a') = some (f a')) → R rec (enc a) = some (f a))
    (inj : ∀ a b, enc a = enc b → f b = f a) {a : α} (h : P a) : loopF R enc P f (enc a) = some (f a) := by
  have hex : ∃ o, (∃ m, fuelRec R m (enc a) = some o) ∧ ∃ a', enc a = enc a' ∧ P a' ∧ o = f a' := ⟨f a, ⟨μ a + 1, loop_fun μ step _ a h (Nat.lt_succ_self _)⟩, a, rfl, h, rfl⟩
  unfold loopF loopQ
  rw [dif_pos hex]
  obtain ⟨_, a', h1, _, h3⟩ := hex.choose_spec
  rw [h3, inj a a' h1]

/-- Bytes as rows, texts as rows. -/
def uvs (l : List UInt8) : List AV := l.map fun b => uv b.toNat
def svL (l : List (List UInt8)) : List AV := l.map fun p => sv (bs p)
theorem uvs_len (l : List UInt8) : (uvs l).length = l.length := by simp [uvs]
theorem svL_len (l : List (List UInt8)) : (svL l).length = l.length := by simp [svL]
theorem u8_inj {a b : UInt8} (h : (a.toNat : Int) = (b.toNat : Int)) : a = b := UInt8.toNat_inj.1 (by omega)
theorem uvs_inj : ∀ {a b : List UInt8}, uvs a = uvs b → a = b
  | [], [], _ => rfl
  | [], y :: b, h => by simp [uvs] at h
  | x :: a, [], h => by simp [uvs] at h
  | x :: a, y :: b, h => by
    simp only [uvs, List.map_cons, List.cons.injEq] at h
    have h1 := h.1
    simp only [uv, AV.v.injEq, Value.int.injEq, true_and] at h1
    have h2 := uvs_inj (a := a) (b := b) h.2
    rw [h2, show x = y from UInt8.toNat_inj.1 (by omega)]
theorem svL_inj : ∀ {a b : List (List UInt8)}, svL a = svL b → a = b
  | [], [], _ => rfl
  | [], y :: b, h => by simp [svL] at h
  | x :: a, [], h => by simp [svL] at h
  | x :: a, y :: b, h => by
    simp only [svL, List.map_cons, List.cons.injEq] at h
    have h1 := h.1
    simp only [sv, AV.v.injEq, Value.string.injEq] at h1
    rw [svL_inj (a := a) (b := b) h.2, bs_inj h1]
theorem uvs_inj_iff {a b : List UInt8} : uvs a = uvs b ↔ a = b := ⟨uvs_inj, fun h => by rw [h]⟩
theorem svL_inj_iff {a b : List (List UInt8)} : svL a = svL b ↔ a = b := ⟨svL_inj, fun h => by rw [h]⟩
theorem bs_inj_iff {a b : List UInt8} : bs a = bs b ↔ a = b := ⟨bs_inj, fun h => by rw [h]⟩
theorem uvs_get (l : List UInt8) (i : Nat) (h : i < l.length) : (uvs l)[i]? = some (uv l[i].toNat) := by simp [uvs, h]
theorem svL_get (l : List (List UInt8)) (i : Nat) (h : i < l.length) : (svL l)[i]? = some (sv (bs l[i])) := by simp [svL, h]
theorem uvs_take (l : List UInt8) (n : Nat) : (uvs l).take n = uvs (l.take n) := by simp [uvs]
theorem uvs_drop (l : List UInt8) (n : Nat) : (uvs l).drop n = uvs (l.drop n) := by simp [uvs]
theorem uvs_app (a b : List UInt8) : uvs a ++ uvs b = uvs (a ++ b) := by simp [uvs]
theorem svL_app (a b : List (List UInt8)) : svL a ++ svL b = svL (a ++ b) := by simp [svL]
theorem bytesRows_uvs (l : List UInt8) : bytesRows (bs l) = uvs l := bytesRows_bs l
theorem rowsBytes_uvs : ∀ l : List UInt8, rowsBytes (uvs l) = some l
  | [] => rfl
  | b :: l => by
    have ih := rowsBytes_uvs l
    unfold rowsBytes uvs at ih ⊢
    simp only [List.map_cons, List.mapM_cons, ih, rowByte]
    simp
theorem mk_bs (l : List UInt8) : ({ data := l.toArray } : ByteArray) = bs l := rfl
/-- Is a memory's bound kept? -/
theorem lenOk_of {n b : Nat} (h : n * b ≤ 70368744177664) : lenOk n b = true := Nat.ble_eq_true_of_le h
theorem lenOks_of {n b : Nat} (hb : 1 ≤ b) (h : n * b ≤ 70368744177664) : (lenOk n b && lenOk n 1) = true := by
  have : n * 1 ≤ n * b := Nat.mul_le_mul_left _ hb
  rw [lenOk_of h, lenOk_of (by omega)]
  rfl
end Go.Ab
