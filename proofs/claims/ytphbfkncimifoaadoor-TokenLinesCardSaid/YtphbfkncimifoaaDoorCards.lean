/-
  DERIVED. GIVEN WITH THE SEED: THE CARDS: each row of YtphbfkncimifoaaDoorRows.lean that lists a variable, with what it lists TIED to the program's text (the seventh form; the later family's looks); each row that meets fmt, with fmt's text TOLD by the authors' own Lean function (tested against real Go, not proved from fmt's source: count such statements apart). THE CARD IS WHAT COUNTS. Prove the row's statement (the work); the ties are given (YtphbfkncimifoaaDoorTie.lean); close each card by the builder's one call (the guide's Derived/Test/ToyasCard.lean, 'card_holds'). Laid BY PROGRAM, IN A SANDBOX (cutbox-door.mjs). By AI agents, Wed Nov 11 2026. No macro, syntax, notation, axiom, sorry.
-/
import Derived.Test.YtphbfkncimifoaaDoorRows
import GoSem.ClaimSeven
namespace Go.Proofs.YtphbfkncimifoaaDoor
namespace Rows

/-- THE TIED CARD OF 'escheatlaw23.TokenPieces'. -/
def tokenPiecesCard : Claim7 := { stood := { row := tokenPiecesRow, standIns := [], harness := (true, "426c488752a5a2461248d5dfac4f63578310dd7ee3f192409507e93251a91326"), looks := true }, kinds := [], alts := [], laidByText := true, laidKinds := [.data, .data, .data, .data, .sentinel, .sentinel, .pinned], laidTests := true, laidLooks := .later }
def TokenPiecesCardSaid : Prop := Claim7.holds Tryd.pinned (.plain (OpenSpec.ofChange tokenPiecesSpec)) tokenPiecesCard

/-- THE TIED CARD OF 'escheatlaw23.TokenLines'. -/
def tokenLinesCard : Claim7 := { stood := { row := tokenLinesRow, standIns := [], harness := (true, "426c488752a5a2461248d5dfac4f63578310dd7ee3f192409507e93251a91326"), looks := true }, kinds := [], alts := [], laidByText := true, laidKinds := [.data, .data, .data, .data, .sentinel, .sentinel, .pinned], laidTests := true, laidLooks := .later }
def TokenLinesCardSaid : Prop := Claim7.holds Tryd.pinned (.plain (OpenSpec.ofChange tokenLinesSpec)) tokenLinesCard

/-- THE TIED CARD OF 'escheatlaw23.TokenSmall'. -/
def tokenSmallCard : Claim7 := { stood := { row := tokenSmallRow, standIns := [], harness := (true, "426c488752a5a2461248d5dfac4f63578310dd7ee3f192409507e93251a91326"), looks := true }, kinds := [], alts := [], laidByText := true, laidKinds := [.data, .data, .data, .data, .sentinel, .sentinel, .pinned], laidTests := true, laidLooks := .later }
def TokenSmallCardSaid : Prop := Claim7.holds Tryd.pinned (.plain (OpenSpec.ofChange tokenSmallSpec)) tokenSmallCard

/-- THE TIED CARD OF 'escheatlaw23.TokenLiterals'. -/
def tokenLiteralsCard : Claim7 := { stood := { row := tokenLiteralsRow, standIns := [], harness := (true, "426c488752a5a2461248d5dfac4f63578310dd7ee3f192409507e93251a91326"), looks := true }, kinds := [], alts := [], laidByText := true, laidKinds := [.data, .data, .data, .data, .sentinel, .sentinel, .pinned], laidTests := true, laidLooks := .later }
def TokenLiteralsCardSaid : Prop := Claim7.holds Tryd.pinned (.plain (OpenSpec.ofChange tokenLiteralsSpec)) tokenLiteralsCard

/-- THE TIED CARD OF 'escheatlaw23.TokenFeeds'. -/
def tokenFeedsCard : Claim7 := { stood := { row := tokenFeedsRow, standIns := [], harness := (true, "426c488752a5a2461248d5dfac4f63578310dd7ee3f192409507e93251a91326"), looks := true }, kinds := [], alts := [], laidByText := true, laidKinds := [.data, .data, .data, .data, .sentinel, .sentinel, .pinned], laidTests := true, laidLooks := .later }
def TokenFeedsCardSaid : Prop := Claim7.holds Tryd.pinned (.plain (OpenSpec.ofChange tokenFeedsSpec)) tokenFeedsCard

/-- THE SECOND FORM's CARD OF 'escheatlaw23.TokenPieces'. -/
def tokenPiecesUptoCard : Claim7 := { stood := { row := tokenPiecesUptoRow, standIns := [], harness := (true, "426c488752a5a2461248d5dfac4f63578310dd7ee3f192409507e93251a91326"), looks := true }, kinds := [], alts := [], laidByText := true, laidKinds := [.data, .data, .data, .data, .sentinel, .sentinel, .pinned], laidTests := true, laidLooks := .later }
def TokenPiecesUptoCardSaid : Prop := Claim7.holds Tryd.pinned (.plain (OpenSpec.upto tokenPiecesSpec)) tokenPiecesUptoCard

/-- THE SECOND FORM's CARD OF 'escheatlaw23.TokenLines'. -/
def tokenLinesUptoCard : Claim7 := { stood := { row := tokenLinesUptoRow, standIns := [], harness := (true, "426c488752a5a2461248d5dfac4f63578310dd7ee3f192409507e93251a91326"), looks := true }, kinds := [], alts := [], laidByText := true, laidKinds := [.data, .data, .data, .data, .sentinel, .sentinel, .pinned], laidTests := true, laidLooks := .later }
def TokenLinesUptoCardSaid : Prop := Claim7.holds Tryd.pinned (.plain (OpenSpec.upto tokenLinesSpec)) tokenLinesUptoCard

/-- THE SECOND FORM's CARD OF 'escheatlaw23.TokenSmall'. -/
def tokenSmallUptoCard : Claim7 := { stood := { row := tokenSmallUptoRow, standIns := [], harness := (true, "426c488752a5a2461248d5dfac4f63578310dd7ee3f192409507e93251a91326"), looks := true }, kinds := [], alts := [], laidByText := true, laidKinds := [.data, .data, .data, .data, .sentinel, .sentinel, .pinned], laidTests := true, laidLooks := .later }
def TokenSmallUptoCardSaid : Prop := Claim7.holds Tryd.pinned (.plain (OpenSpec.upto tokenSmallSpec)) tokenSmallUptoCard

/-- THE SECOND FORM's CARD OF 'escheatlaw23.TokenLiterals'. -/
def tokenLiteralsUptoCard : Claim7 := { stood := { row := tokenLiteralsUptoRow, standIns := [], harness := (true, "426c488752a5a2461248d5dfac4f63578310dd7ee3f192409507e93251a91326"), looks := true }, kinds := [], alts := [], laidByText := true, laidKinds := [.data, .data, .data, .data, .sentinel, .sentinel, .pinned], laidTests := true, laidLooks := .later }
def TokenLiteralsUptoCardSaid : Prop := Claim7.holds Tryd.pinned (.plain (OpenSpec.upto tokenLiteralsSpec)) tokenLiteralsUptoCard

/-- THE SECOND FORM's CARD OF 'escheatlaw23.TokenFeeds'. -/
def tokenFeedsUptoCard : Claim7 := { stood := { row := tokenFeedsUptoRow, standIns := [], harness := (true, "426c488752a5a2461248d5dfac4f63578310dd7ee3f192409507e93251a91326"), looks := true }, kinds := [], alts := [], laidByText := true, laidKinds := [.data, .data, .data, .data, .sentinel, .sentinel, .pinned], laidTests := true, laidLooks := .later }
def TokenFeedsUptoCardSaid : Prop := Claim7.holds Tryd.pinned (.plain (OpenSpec.upto tokenFeedsSpec)) tokenFeedsUptoCard
end Rows
end Go.Proofs.YtphbfkncimifoaaDoor
