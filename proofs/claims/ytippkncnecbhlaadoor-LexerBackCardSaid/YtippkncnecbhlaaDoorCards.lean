/-
  DERIVED. GIVEN WITH THE SEED: THE CARDS: each row of YtippkncnecbhlaaDoorRows.lean that lists a variable, with what it lists TIED to the program's text (the seventh form; the later family's looks); each row that meets fmt, with fmt's text TOLD by the authors' own Lean function (tested against real Go, not proved from fmt's source: count such statements apart). THE CARD IS WHAT COUNTS. Prove the row's statement (the work); the ties are given (YtippkncnecbhlaaDoorTie.lean); close each card by the builder's one call (the guide's Derived/Test/ToyasCard.lean, 'card_holds'). Laid BY PROGRAM, IN A SANDBOX (cutbox-door.mjs). By AI agents, Wed Nov 11 2026. No macro, syntax, notation, axiom, sorry.
-/
import Derived.Test.YtippkncnecbhlaaDoorRows
import GoSem.ClaimSeven
namespace Go.Proofs.YtippkncnecbhlaaDoor
namespace Rows

/-- THE TIED CARD OF 'bitemporallaw17.LexerTokens'. -/
def lexerTokensCard : Claim7 := { stood := { row := lexerTokensRow, standIns := [], harness := (true, "e876e989ac5d2eb8d634fe5a9a23b165e0d7e403fd8ee2c1eff70460f31bfbc9"), looks := true }, kinds := [], alts := [], laidByText := true, laidKinds := [.data, .listed, .data, .pinned, .pinned], laidTests := true, laidLooks := .later }
def LexerTokensCardSaid : Prop := Claim7.holds Tryd.pinned (.plain (OpenSpec.ofChange lexerTokensSpec)) lexerTokensCard

/-- THE TIED CARD OF 'bitemporallaw17.LexerPositions'. -/
def lexerPositionsCard : Claim7 := { stood := { row := lexerPositionsRow, standIns := [], harness := (true, "e876e989ac5d2eb8d634fe5a9a23b165e0d7e403fd8ee2c1eff70460f31bfbc9"), looks := true }, kinds := [], alts := [], laidByText := true, laidKinds := [.data, .listed, .data, .pinned, .pinned], laidTests := true, laidLooks := .later }
def LexerPositionsCardSaid : Prop := Claim7.holds Tryd.pinned (.plain (OpenSpec.ofChange lexerPositionsSpec)) lexerPositionsCard

/-- THE TIED CARD OF 'bitemporallaw17.LexerWords'. -/
def lexerWordsCard : Claim7 := { stood := { row := lexerWordsRow, standIns := [], harness := (true, "e876e989ac5d2eb8d634fe5a9a23b165e0d7e403fd8ee2c1eff70460f31bfbc9"), looks := true }, kinds := [], alts := [], laidByText := true, laidKinds := [.data, .listed, .data, .pinned, .pinned], laidTests := true, laidLooks := .later }
def LexerWordsCardSaid : Prop := Claim7.holds Tryd.pinned (.plain (OpenSpec.ofChange lexerWordsSpec)) lexerWordsCard

/-- THE TIED CARD OF 'bitemporallaw17.LexerBack'. -/
def lexerBackCard : Claim7 := { stood := { row := lexerBackRow, standIns := [], harness := (true, "e876e989ac5d2eb8d634fe5a9a23b165e0d7e403fd8ee2c1eff70460f31bfbc9"), looks := true }, kinds := [], alts := [], laidByText := true, laidKinds := [.data, .data, .data, .data, .listed, .data, .pinned, .pinned], laidTests := true, laidLooks := .later }
def LexerBackCardSaid : Prop := Claim7.holds Tryd.pinned (.plain (OpenSpec.ofChange lexerBackSpec)) lexerBackCard

/-- THE SECOND FORM's CARD OF 'bitemporallaw17.LexerTokens'. -/
def lexerTokensUptoCard : Claim7 := { stood := { row := lexerTokensUptoRow, standIns := [], harness := (true, "e876e989ac5d2eb8d634fe5a9a23b165e0d7e403fd8ee2c1eff70460f31bfbc9"), looks := true }, kinds := [], alts := [], laidByText := true, laidKinds := [.data, .listed, .data, .pinned, .pinned], laidTests := true, laidLooks := .later }
def LexerTokensUptoCardSaid : Prop := Claim7.holds Tryd.pinned (.plain (OpenSpec.upto lexerTokensSpec)) lexerTokensUptoCard

/-- THE SECOND FORM's CARD OF 'bitemporallaw17.LexerPositions'. -/
def lexerPositionsUptoCard : Claim7 := { stood := { row := lexerPositionsUptoRow, standIns := [], harness := (true, "e876e989ac5d2eb8d634fe5a9a23b165e0d7e403fd8ee2c1eff70460f31bfbc9"), looks := true }, kinds := [], alts := [], laidByText := true, laidKinds := [.data, .listed, .data, .pinned, .pinned], laidTests := true, laidLooks := .later }
def LexerPositionsUptoCardSaid : Prop := Claim7.holds Tryd.pinned (.plain (OpenSpec.upto lexerPositionsSpec)) lexerPositionsUptoCard

/-- THE SECOND FORM's CARD OF 'bitemporallaw17.LexerWords'. -/
def lexerWordsUptoCard : Claim7 := { stood := { row := lexerWordsUptoRow, standIns := [], harness := (true, "e876e989ac5d2eb8d634fe5a9a23b165e0d7e403fd8ee2c1eff70460f31bfbc9"), looks := true }, kinds := [], alts := [], laidByText := true, laidKinds := [.data, .listed, .data, .pinned, .pinned], laidTests := true, laidLooks := .later }
def LexerWordsUptoCardSaid : Prop := Claim7.holds Tryd.pinned (.plain (OpenSpec.upto lexerWordsSpec)) lexerWordsUptoCard

/-- THE SECOND FORM's CARD OF 'bitemporallaw17.LexerBack'. -/
def lexerBackUptoCard : Claim7 := { stood := { row := lexerBackUptoRow, standIns := [], harness := (true, "e876e989ac5d2eb8d634fe5a9a23b165e0d7e403fd8ee2c1eff70460f31bfbc9"), looks := true }, kinds := [], alts := [], laidByText := true, laidKinds := [.data, .data, .data, .data, .listed, .data, .pinned, .pinned], laidTests := true, laidLooks := .later }
def LexerBackUptoCardSaid : Prop := Claim7.holds Tryd.pinned (.plain (OpenSpec.upto lexerBackSpec)) lexerBackUptoCard
end Rows
end Go.Proofs.YtippkncnecbhlaaDoor
