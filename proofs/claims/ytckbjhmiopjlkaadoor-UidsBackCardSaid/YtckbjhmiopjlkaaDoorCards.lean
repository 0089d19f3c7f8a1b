/-
  DERIVED. GIVEN WITH THE SEED: THE CARDS: each row of YtckbjhmiopjlkaaDoorRows.lean that lists a variable, with what it lists TIED to the program's text (the seventh form; the later family's looks); each row that meets fmt, with fmt's text TOLD by the authors' own Lean function (tested against real Go, not proved from fmt's source: count such statements apart). THE CARD IS WHAT COUNTS. Prove the row's statement (the work); the ties are given (YtckbjhmiopjlkaaDoorTie.lean); close each card by the builder's one call (the guide's Derived/Test/ToyasCard.lean, 'card_holds'). Laid BY PROGRAM, IN A SANDBOX (cutbox-door.mjs). By AI agents, Wed Nov 11 2026. No macro, syntax, notation, axiom, sorry.
-/
import Derived.Test.YtckbjhmiopjlkaaDoorRows
import GoSem.ClaimSeven
namespace Go.Proofs.YtckbjhmiopjlkaaDoor
namespace Rows

/-- THE TIED CARD OF 'escheatlaw09.UidsTurned'. -/
def uidsTurnedCard : Claim7 := { stood := { row := uidsTurnedRow, standIns := [], harness := (true, "96b4c685969ccc9de67b3b78a33c52f2ea5e5eee1dd4d6319a7d73a54f4b3189"), looks := true }, kinds := [], alts := [], laidByText := true, laidKinds := [.data, .data, .data, .data, .sentinel, .sentinel, .pinned], laidTests := true, laidLooks := .later }
def UidsTurnedCardSaid : Prop := Claim7.holds Tryd.pinned (.plain (OpenSpec.ofChange uidsTurnedSpec)) uidsTurnedCard

/-- THE TIED CARD OF 'escheatlaw09.UidsPicks'. -/
def uidsPicksCard : Claim7 := { stood := { row := uidsPicksRow, standIns := [], harness := (true, "96b4c685969ccc9de67b3b78a33c52f2ea5e5eee1dd4d6319a7d73a54f4b3189"), looks := true }, kinds := [], alts := [], laidByText := true, laidKinds := [.data, .data, .data, .data, .sentinel, .sentinel, .pinned], laidTests := true, laidLooks := .later }
def UidsPicksCardSaid : Prop := Claim7.holds Tryd.pinned (.plain (OpenSpec.ofChange uidsPicksSpec)) uidsPicksCard

/-- THE TIED CARD OF 'escheatlaw09.UidsOf'. -/
def uidsOfCard : Claim7 := { stood := { row := uidsOfRow, standIns := [], harness := (true, "96b4c685969ccc9de67b3b78a33c52f2ea5e5eee1dd4d6319a7d73a54f4b3189"), looks := true }, kinds := [], alts := [], laidByText := true, laidKinds := [.data, .data, .data, .data, .sentinel, .sentinel, .pinned], laidTests := true, laidLooks := .later }
def UidsOfCardSaid : Prop := Claim7.holds Tryd.pinned (.plain (OpenSpec.ofChange uidsOfSpec)) uidsOfCard

/-- THE TIED CARD OF 'escheatlaw09.UidsTexts'. -/
def uidsTextsCard : Claim7 := { stood := { row := uidsTextsRow, standIns := [], harness := (true, "96b4c685969ccc9de67b3b78a33c52f2ea5e5eee1dd4d6319a7d73a54f4b3189"), looks := true }, kinds := [], alts := [], laidByText := true, laidKinds := [.data, .data, .data, .data, .sentinel, .sentinel, .pinned], laidTests := true, laidLooks := .later }
def UidsTextsCardSaid : Prop := Claim7.holds Tryd.pinned (.plain (OpenSpec.ofChange uidsTextsSpec)) uidsTextsCard

/-- THE TIED CARD OF 'escheatlaw09.UidsBack'. -/
def uidsBackCard : Claim7 := { stood := { row := uidsBackRow, standIns := [], harness := (true, "96b4c685969ccc9de67b3b78a33c52f2ea5e5eee1dd4d6319a7d73a54f4b3189"), looks := true }, kinds := [], alts := [], laidByText := true, laidKinds := [.data, .data, .data, .data, .sentinel, .sentinel, .pinned], laidTests := true, laidLooks := .later }
def UidsBackCardSaid : Prop := Claim7.holds Tryd.pinned (.plain (OpenSpec.ofChange uidsBackSpec)) uidsBackCard

/-- THE SECOND FORM's CARD OF 'escheatlaw09.UidsTurned'. -/
def uidsTurnedUptoCard : Claim7 := { stood := { row := uidsTurnedUptoRow, standIns := [], harness := (true, "96b4c685969ccc9de67b3b78a33c52f2ea5e5eee1dd4d6319a7d73a54f4b3189"), looks := true }, kinds := [], alts := [], laidByText := true, laidKinds := [.data, .data, .data, .data, .sentinel, .sentinel, .pinned], laidTests := true, laidLooks := .later }
def UidsTurnedUptoCardSaid : Prop := Claim7.holds Tryd.pinned (.plain (OpenSpec.upto uidsTurnedSpec)) uidsTurnedUptoCard

/-- THE SECOND FORM's CARD OF 'escheatlaw09.UidsPicks'. -/
def uidsPicksUptoCard : Claim7 := { stood := { row := uidsPicksUptoRow, standIns := [], harness := (true, "96b4c685969ccc9de67b3b78a33c52f2ea5e5eee1dd4d6319a7d73a54f4b3189"), looks := true }, kinds := [], alts := [], laidByText := true, laidKinds := [.data, .data, .data, .data, .sentinel, .sentinel, .pinned], laidTests := true, laidLooks := .later }
def UidsPicksUptoCardSaid : Prop := Claim7.holds Tryd.pinned (.plain (OpenSpec.upto uidsPicksSpec)) uidsPicksUptoCard

/-- THE SECOND FORM's CARD OF 'escheatlaw09.UidsOf'. -/
def uidsOfUptoCard : Claim7 := { stood := { row := uidsOfUptoRow, standIns := [], harness := (true, "96b4c685969ccc9de67b3b78a33c52f2ea5e5eee1dd4d6319a7d73a54f4b3189"), looks := true }, kinds := [], alts := [], laidByText := true, laidKinds := [.data, .data, .data, .data, .sentinel, .sentinel, .pinned], laidTests := true, laidLooks := .later }
def UidsOfUptoCardSaid : Prop := Claim7.holds Tryd.pinned (.plain (OpenSpec.upto uidsOfSpec)) uidsOfUptoCard

/-- THE SECOND FORM's CARD OF 'escheatlaw09.UidsTexts'. -/
def uidsTextsUptoCard : Claim7 := { stood := { row := uidsTextsUptoRow, standIns := [], harness := (true, "96b4c685969ccc9de67b3b78a33c52f2ea5e5eee1dd4d6319a7d73a54f4b3189"), looks := true }, kinds := [], alts := [], laidByText := true, laidKinds := [.data, .data, .data, .data, .sentinel, .sentinel, .pinned], laidTests := true, laidLooks := .later }
def UidsTextsUptoCardSaid : Prop := Claim7.holds Tryd.pinned (.plain (OpenSpec.upto uidsTextsSpec)) uidsTextsUptoCard

/-- THE SECOND FORM's CARD OF 'escheatlaw09.UidsBack'. -/
def uidsBackUptoCard : Claim7 := { stood := { row := uidsBackUptoRow, standIns := [], harness := (true, "96b4c685969ccc9de67b3b78a33c52f2ea5e5eee1dd4d6319a7d73a54f4b3189"), looks := true }, kinds := [], alts := [], laidByText := true, laidKinds := [.data, .data, .data, .data, .sentinel, .sentinel, .pinned], laidTests := true, laidLooks := .later }
def UidsBackUptoCardSaid : Prop := Claim7.holds Tryd.pinned (.plain (OpenSpec.upto uidsBackSpec)) uidsBackUptoCard
end Rows
end Go.Proofs.YtckbjhmiopjlkaaDoor
