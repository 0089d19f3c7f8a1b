/-
  DERIVED. GIVEN WITH THE SEED: THE CARDS: each row of YtkkbdebmilagoaaGreatDoorRows.lean that lists a variable, with what it lists TIED to the program's text (the seventh form; the later family's looks); each row that meets fmt, with fmt's text TOLD by the authors' own Lean function (tested against real Go, not proved from fmt's source: count such statements apart). THE CARD IS WHAT COUNTS. Prove the row's statement (the work); the ties are given (YtkkbdebmilagoaaGreatDoorTie.lean); close each card by the builder's one call (the guide's Derived/Test/ToyasCard.lean, 'card_holds'). Laid BY PROGRAM, IN A SANDBOX (cutbox-door.mjs). By AI agents, Wed Nov 11 2026. No macro, syntax, notation, axiom, sorry.
-/
import Derived.Test.YtkkbdebmilagoaaGreatDoorRows
import GoSem.ClaimSeven
namespace Go.Proofs.YtkkbdebmilagoaaGreatDoor
namespace Rows

/-- THE TIED CARD OF 'escheatlaw22.SearchLogic'. -/
def searchLogicCard : Claim7 := { stood := { row := searchLogicRow, standIns := [], harness := (true, "ebe87bbda0de104ad8a57389402d3d72f49ed1f97f90dedebbee8ab3e6fbbd36"), looks := true }, kinds := [], alts := [], laidByText := true, laidKinds := [.data, .data, .data, .data, .sentinel, .sentinel, .data, .data, .data, .data, .pinned, .pinned], laidTests := true, laidLooks := .later }
def SearchLogicCardSaid : Prop := Claim7.holds Tryz.pinned (.plain (OpenSpec.ofChange searchLogicSpec)) searchLogicCard

/-- THE TIED CARD OF 'escheatlaw22.SearchRises'. -/
def searchRisesCard : Claim7 := { stood := { row := searchRisesRow, standIns := [], harness := (true, "ebe87bbda0de104ad8a57389402d3d72f49ed1f97f90dedebbee8ab3e6fbbd36"), looks := true }, kinds := [], alts := [], laidByText := true, laidKinds := [.data, .data, .data, .data, .sentinel, .sentinel, .data, .data, .data, .data, .pinned, .pinned], laidTests := true, laidLooks := .later }
def SearchRisesCardSaid : Prop := Claim7.holds Tryz.pinned (.plain (OpenSpec.ofChange searchRisesSpec)) searchRisesCard

/-- THE TIED CARD OF 'escheatlaw22.SearchDays'. -/
def searchDaysCard : Claim7 := { stood := { row := searchDaysRow, standIns := [], harness := (true, "ebe87bbda0de104ad8a57389402d3d72f49ed1f97f90dedebbee8ab3e6fbbd36"), looks := true }, kinds := [], alts := [], laidByText := true, laidKinds := [.data, .data, .data, .data, .sentinel, .sentinel, .data, .data, .data, .data, .pinned, .pinned], laidTests := true, laidLooks := .later }
def SearchDaysCardSaid : Prop := Claim7.holds Tryz.pinned (.plain (OpenSpec.ofChange searchDaysSpec)) searchDaysCard

/-- THE SECOND FORM's CARD OF 'escheatlaw22.SearchLogic'. -/
def searchLogicUptoCard : Claim7 := { stood := { row := searchLogicUptoRow, standIns := [], harness := (true, "ebe87bbda0de104ad8a57389402d3d72f49ed1f97f90dedebbee8ab3e6fbbd36"), looks := true }, kinds := [], alts := [], laidByText := true, laidKinds := [.data, .data, .data, .data, .sentinel, .sentinel, .data, .data, .data, .data, .pinned, .pinned], laidTests := true, laidLooks := .later }
def SearchLogicUptoCardSaid : Prop := Claim7.holds Tryz.pinned (.plain (OpenSpec.upto searchLogicSpec)) searchLogicUptoCard

/-- THE SECOND FORM's CARD OF 'escheatlaw22.SearchRises'. -/
def searchRisesUptoCard : Claim7 := { stood := { row := searchRisesUptoRow, standIns := [], harness := (true, "ebe87bbda0de104ad8a57389402d3d72f49ed1f97f90dedebbee8ab3e6fbbd36"), looks := true }, kinds := [], alts := [], laidByText := true, laidKinds := [.data, .data, .data, .data, .sentinel, .sentinel, .data, .data, .data, .data, .pinned, .pinned], laidTests := true, laidLooks := .later }
def SearchRisesUptoCardSaid : Prop := Claim7.holds Tryz.pinned (.plain (OpenSpec.upto searchRisesSpec)) searchRisesUptoCard

/-- THE SECOND FORM's CARD OF 'escheatlaw22.SearchDays'. -/
def searchDaysUptoCard : Claim7 := { stood := { row := searchDaysUptoRow, standIns := [], harness := (true, "ebe87bbda0de104ad8a57389402d3d72f49ed1f97f90dedebbee8ab3e6fbbd36"), looks := true }, kinds := [], alts := [], laidByText := true, laidKinds := [.data, .data, .data, .data, .sentinel, .sentinel, .data, .data, .data, .data, .pinned, .pinned], laidTests := true, laidLooks := .later }
def SearchDaysUptoCardSaid : Prop := Claim7.holds Tryz.pinned (.plain (OpenSpec.upto searchDaysSpec)) searchDaysUptoCard
end Rows
end Go.Proofs.YtkkbdebmilagoaaGreatDoor
