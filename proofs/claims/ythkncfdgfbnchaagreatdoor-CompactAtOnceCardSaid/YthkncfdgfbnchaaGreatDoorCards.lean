/-
  DERIVED. GIVEN WITH THE SEED: THE CARDS: each row of YthkncfdgfbnchaaGreatDoorRows.lean that lists a variable, with what it lists TIED to the program's text (the seventh form; the later family's looks); each row that meets fmt, with fmt's text TOLD by the authors' own Lean function (tested against real Go, not proved from fmt's source: count such statements apart). THE CARD IS WHAT COUNTS. Prove the row's statement (the work); the ties are given (YthkncfdgfbnchaaGreatDoorTie.lean); close each card by the builder's one call (the guide's Derived/Test/ToyasCard.lean, 'card_holds'). Laid BY PROGRAM, IN A SANDBOX (cutbox-door.mjs). By AI agents, Wed Nov 11 2026. No macro, syntax, notation, axiom, sorry.
-/
import Derived.Test.YthkncfdgfbnchaaGreatDoorRows
import GoSem.ClaimSeven
namespace Go.Proofs.YthkncfdgfbnchaaGreatDoor
namespace Rows

/-- THE TIED CARD OF 'courantlaw23.CompactAtOnce'. -/
def compactAtOnceCard : Claim7 := { stood := { row := compactAtOnceRow, standIns := [], harness := (true, "db024f784de8c602062d0c2f77da4424035ca45b2474328780d6fb42f0b13940"), looks := false }, kinds := [], alts := [], laidByText := true, laidKinds := [.data, .pinned], laidTests := true, laidLooks := .later }
def CompactAtOnceCardSaid : Prop := Claim7.holds Tryz.pinned (.plain (OpenSpec.ofChange compactAtOnceSpec)) compactAtOnceCard

/-- THE TIED CARD OF 'courantlaw23.CompactPlays'. -/
def compactPlaysCard : Claim7 := { stood := { row := compactPlaysRow, standIns := [], harness := (true, "db024f784de8c602062d0c2f77da4424035ca45b2474328780d6fb42f0b13940"), looks := false }, kinds := [], alts := [], laidByText := true, laidKinds := [.data, .pinned], laidTests := true, laidLooks := .later }
def CompactPlaysCardSaid : Prop := Claim7.holds Tryz.pinned (.plain (OpenSpec.ofChange compactPlaysSpec)) compactPlaysCard

/-- THE SECOND FORM's CARD OF 'courantlaw23.CompactAtOnce'. -/
def compactAtOnceUptoCard : Claim7 := { stood := { row := compactAtOnceUptoRow, standIns := [], harness := (true, "db024f784de8c602062d0c2f77da4424035ca45b2474328780d6fb42f0b13940"), looks := false }, kinds := [], alts := [], laidByText := true, laidKinds := [.data, .pinned], laidTests := true, laidLooks := .later }
def CompactAtOnceUptoCardSaid : Prop := Claim7.holds Tryz.pinned (.plain (OpenSpec.upto compactAtOnceSpec)) compactAtOnceUptoCard

/-- THE SECOND FORM's CARD OF 'courantlaw23.CompactPlays'. -/
def compactPlaysUptoCard : Claim7 := { stood := { row := compactPlaysUptoRow, standIns := [], harness := (true, "db024f784de8c602062d0c2f77da4424035ca45b2474328780d6fb42f0b13940"), looks := false }, kinds := [], alts := [], laidByText := true, laidKinds := [.data, .pinned], laidTests := true, laidLooks := .later }
def CompactPlaysUptoCardSaid : Prop := Claim7.holds Tryz.pinned (.plain (OpenSpec.upto compactPlaysSpec)) compactPlaysUptoCard
end Rows
end Go.Proofs.YthkncfdgfbnchaaGreatDoor
