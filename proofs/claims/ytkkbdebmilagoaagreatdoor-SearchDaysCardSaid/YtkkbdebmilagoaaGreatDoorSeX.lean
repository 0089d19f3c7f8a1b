import Derived.Test.YtkkbdebmilagoaaGreatDoorCtx
set_option linter.unusedVariables false
set_option linter.unusedSimpArgs false
set_option maxRecDepth 100000
namespace Go.Proofs.YtkkbdebmilagoaaGreatDoor
/- The context with one more variable known: MaxLen, an int of the world's. -/
open Go Go.Ab

noncomputable def XM (m : Int) : Ctx := { X with G := fun g => match Nat.beq g 0 with | true => some (iv m) | false => X.G g }
theorem soundXM (m : Int) : Sound (XM m) := sound_of okL (by kernel_rfl) (by kernel_rfl) (fun g h => h)
theorem XM_G {m : Int} (g : Nat) (x : AV) (h : X.G g = some x) : (XM m).G g = some x := by
  show (match Nat.beq g 0 with | true => some (iv m) | false => X.G g) = some x
  cases hg : Nat.beq g 0 with
  | true =>
    obtain rfl := Nat.eq_of_beq_eq_true hg
    have : X.G 0 = none := by kernel_rfl
    rw [this] at h
    cases h
  | false => exact h
/-- What is so without it is so with it. -/
theorem wide {m : Int} {g : FuncId} {xs : List AV} {v : AV} (h : PureCall X g xs v) : PureCall (XM m) g xs v := by
  refine ⟨h.1, fun s hok hH cs hr => ?_⟩
  have hokX : Ok X s := ⟨hok.inj, hok.obj, fun g x hx => hok.glob g x (XM_G g x hx), hok.maskLt⟩
  refine (h.2 s hokX hH cs hr).mono ?_
  rintro cv w' ⟨s', h1, h2, h3, h4, h5⟩
  exact ⟨s', h1, h2, h3, ⟨h4.inj, h4.obj, fun g x hx => (hok.glob g x hx).mono h3, h4.maskLt⟩, h5⟩
theorem kwide {m : Int} {K : PureK} (h : KOk X K) : KOk (XM m) K := fun g xs v hv => wide (h g xs v hv)
theorem ok_nilM {m : Int} : KOk (XM m) (tabK []) := tab_ok [] tab_nil
end Go.Proofs.YtkkbdebmilagoaaGreatDoor
