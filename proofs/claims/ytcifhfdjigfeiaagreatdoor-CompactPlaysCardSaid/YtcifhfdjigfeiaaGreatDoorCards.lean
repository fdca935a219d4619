/-
  DERIVED. GIVEN WITH THE SEED: THE CARDS: each row of YtcifhfdjigfeiaaGreatDoorRows.lean that lists a variable, with what it lists TIED to the program's text (the seventh form; the later family's looks); each row that meets fmt, with fmt's text TOLD by the authors' own Lean function (tested against real Go, not proved from fmt's source: count such statements apart). THE CARD IS WHAT COUNTS. Prove the row's statement (the work); the ties are given (YtcifhfdjigfeiaaGreatDoorTie.lean); close each card by the builder's one call (the guide's Derived/Test/ToyasCard.lean, 'card_holds'). Laid BY PROGRAM, IN A SANDBOX (cutbox-door.mjs). By AI agents, Wed Nov 11 2026. No macro, syntax, notation, axiom, sorry.
-/
import Derived.Test.YtcifhfdjigfeiaaGreatDoorRows
import GoSem.ClaimSeven
namespace Go.Proofs.YtcifhfdjigfeiaaGreatDoor
namespace Rows

/-- THE TIED CARD OF 'courantlaw23.CompactPlays'. -/
def compactPlaysCard : Claim7 := { stood := { row := compactPlaysRow, standIns := [], harness := (true, "3edc56fb482269da3b1acca9616e8280d7007b7ad1520d6e8af03d11cdfb194a"), looks := false }, kinds := [], alts := [], laidByText := true, laidKinds := [.data, .pinned], laidTests := true, laidLooks := .later }
def CompactPlaysCardSaid : Prop := Claim7.holds Tryz.pinned (.plain (OpenSpec.ofChange compactPlaysSpec)) compactPlaysCard

/-- THE SECOND FORM's CARD OF 'courantlaw23.CompactPlays'. -/
def compactPlaysUptoCard : Claim7 := { stood := { row := compactPlaysUptoRow, standIns := [], harness := (true, "3edc56fb482269da3b1acca9616e8280d7007b7ad1520d6e8af03d11cdfb194a"), looks := false }, kinds := [], alts := [], laidByText := true, laidKinds := [.data, .pinned], laidTests := true, laidLooks := .later }
def CompactPlaysUptoCardSaid : Prop := Claim7.holds Tryz.pinned (.plain (OpenSpec.upto compactPlaysSpec)) compactPlaysUptoCard
end Rows
end Go.Proofs.YtcifhfdjigfeiaaGreatDoor
