/-
  DERIVED. GIVEN WITH THE SEED: THE CARDS: each row of YthkncfdgfbnchaaDoorRows.lean that lists a variable, with what it lists TIED to the program's text (the seventh form; the later family's looks); each row that meets fmt, with fmt's text TOLD by the authors' own Lean function (tested against real Go, not proved from fmt's source: count such statements apart). THE CARD IS WHAT COUNTS. Prove the row's statement (the work); the ties are given (YthkncfdgfbnchaaDoorTie.lean); close each card by the builder's one call (the guide's Derived/Test/ToyasCard.lean, 'card_holds'). Laid BY PROGRAM, IN A SANDBOX (cutbox-door.mjs). By AI agents, Wed Nov 11 2026. No macro, syntax, notation, axiom, sorry.
-/
import Derived.Test.YthkncfdgfbnchaaDoorRows
import GoSem.ClaimSeven
namespace Go.Proofs.YthkncfdgfbnchaaDoor
namespace Rows

/-- THE TIED CARD OF 'courantlaw16.FilesRoom'. -/
def filesRoomCard : Claim7 := { stood := { row := filesRoomRow, standIns := [], harness := (true, "5c53c85d543df104e3ffb811dc2df52f6ad2ec1d568c9d90d632898765b06b31"), looks := false }, kinds := [], alts := [], laidByText := true, laidKinds := [.data, .pinned], laidTests := true, laidLooks := .later }
def FilesRoomCardSaid : Prop := Claim7.holds Tryd.pinned (.plain (OpenSpec.ofChange filesRoomSpec)) filesRoomCard

/-- THE TIED CARD OF 'courantlaw16.FilesSafe'. -/
def filesSafeCard : Claim7 := { stood := { row := filesSafeRow, standIns := [], harness := (true, "5c53c85d543df104e3ffb811dc2df52f6ad2ec1d568c9d90d632898765b06b31"), looks := false }, kinds := [], alts := [], laidByText := true, laidKinds := [.data, .pinned], laidTests := true, laidLooks := .later }
def FilesSafeCardSaid : Prop := Claim7.holds Tryd.pinned (.plain (OpenSpec.ofChange filesSafeSpec)) filesSafeCard

/-- THE TIED CARD OF 'courantlaw16.FilesSwap'. -/
def filesSwapCard : Claim7 := { stood := { row := filesSwapRow, standIns := [], harness := (true, "5c53c85d543df104e3ffb811dc2df52f6ad2ec1d568c9d90d632898765b06b31"), looks := false }, kinds := [], alts := [], laidByText := true, laidKinds := [.data, .pinned], laidTests := true, laidLooks := .later }
def FilesSwapCardSaid : Prop := Claim7.holds Tryd.pinned (.plain (OpenSpec.ofChange filesSwapSpec)) filesSwapCard

/-- THE TIED CARD OF 'courantlaw16.FilesPlay'. -/
def filesPlayCard : Claim7 := { stood := { row := filesPlayRow, standIns := [], harness := (true, "5c53c85d543df104e3ffb811dc2df52f6ad2ec1d568c9d90d632898765b06b31"), looks := false }, kinds := [], alts := [], laidByText := true, laidKinds := [.data, .pinned], laidTests := true, laidLooks := .later }
def FilesPlayCardSaid : Prop := Claim7.holds Tryd.pinned (.plain (OpenSpec.ofChange filesPlaySpec)) filesPlayCard

/-- THE TIED CARD OF 'courantlaw16.FilesNil'. -/
def filesNilCard : Claim7 := { stood := { row := filesNilRow, standIns := [], harness := (true, "5c53c85d543df104e3ffb811dc2df52f6ad2ec1d568c9d90d632898765b06b31"), looks := false }, kinds := [], alts := [], laidByText := true, laidKinds := [.data, .pinned], laidTests := true, laidLooks := .later }
def FilesNilCardSaid : Prop := Claim7.holds Tryd.pinned (.plain (OpenSpec.ofChange filesNilSpec)) filesNilCard

/-- THE TIED CARD OF 'courantlaw23.CompactShort'. -/
def compactShortCard : Claim7 := { stood := { row := compactShortRow, standIns := [], harness := (true, "5c53c85d543df104e3ffb811dc2df52f6ad2ec1d568c9d90d632898765b06b31"), looks := false }, kinds := [], alts := [], laidByText := true, laidKinds := [.data, .pinned], laidTests := true, laidLooks := .later }
def CompactShortCardSaid : Prop := Claim7.holds Tryd.pinned (.plain (OpenSpec.ofChange compactShortSpec)) compactShortCard

/-- THE TIED CARD OF 'courantlaw23.CompactNil'. -/
def compactNilCard : Claim7 := { stood := { row := compactNilRow, standIns := [], harness := (true, "5c53c85d543df104e3ffb811dc2df52f6ad2ec1d568c9d90d632898765b06b31"), looks := false }, kinds := [], alts := [], laidByText := true, laidKinds := [.data, .pinned], laidTests := true, laidLooks := .later }
def CompactNilCardSaid : Prop := Claim7.holds Tryd.pinned (.plain (OpenSpec.ofChange compactNilSpec)) compactNilCard

/-- THE SECOND FORM's CARD OF 'courantlaw16.FilesRoom'. -/
def filesRoomUptoCard : Claim7 := { stood := { row := filesRoomUptoRow, standIns := [], harness := (true, "5c53c85d543df104e3ffb811dc2df52f6ad2ec1d568c9d90d632898765b06b31"), looks := false }, kinds := [], alts := [], laidByText := true, laidKinds := [.data, .pinned], laidTests := true, laidLooks := .later }
def FilesRoomUptoCardSaid : Prop := Claim7.holds Tryd.pinned (.plain (OpenSpec.upto filesRoomSpec)) filesRoomUptoCard

/-- THE SECOND FORM's CARD OF 'courantlaw16.FilesSafe'. -/
def filesSafeUptoCard : Claim7 := { stood := { row := filesSafeUptoRow, standIns := [], harness := (true, "5c53c85d543df104e3ffb811dc2df52f6ad2ec1d568c9d90d632898765b06b31"), looks := false }, kinds := [], alts := [], laidByText := true, laidKinds := [.data, .pinned], laidTests := true, laidLooks := .later }
def FilesSafeUptoCardSaid : Prop := Claim7.holds Tryd.pinned (.plain (OpenSpec.upto filesSafeSpec)) filesSafeUptoCard

/-- THE SECOND FORM's CARD OF 'courantlaw16.FilesSwap'. -/
def filesSwapUptoCard : Claim7 := { stood := { row := filesSwapUptoRow, standIns := [], harness := (true, "5c53c85d543df104e3ffb811dc2df52f6ad2ec1d568c9d90d632898765b06b31"), looks := false }, kinds := [], alts := [], laidByText := true, laidKinds := [.data, .pinned], laidTests := true, laidLooks := .later }
def FilesSwapUptoCardSaid : Prop := Claim7.holds Tryd.pinned (.plain (OpenSpec.upto filesSwapSpec)) filesSwapUptoCard

/-- THE SECOND FORM's CARD OF 'courantlaw16.FilesPlay'. -/
def filesPlayUptoCard : Claim7 := { stood := { row := filesPlayUptoRow, standIns := [], harness := (true, "5c53c85d543df104e3ffb811dc2df52f6ad2ec1d568c9d90d632898765b06b31"), looks := false }, kinds := [], alts := [], laidByText := true, laidKinds := [.data, .pinned], laidTests := true, laidLooks := .later }
def FilesPlayUptoCardSaid : Prop := Claim7.holds Tryd.pinned (.plain (OpenSpec.upto filesPlaySpec)) filesPlayUptoCard

/-- THE SECOND FORM's CARD OF 'courantlaw16.FilesNil'. -/
def filesNilUptoCard : Claim7 := { stood := { row := filesNilUptoRow, standIns := [], harness := (true, "5c53c85d543df104e3ffb811dc2df52f6ad2ec1d568c9d90d632898765b06b31"), looks := false }, kinds := [], alts := [], laidByText := true, laidKinds := [.data, .pinned], laidTests := true, laidLooks := .later }
def FilesNilUptoCardSaid : Prop := Claim7.holds Tryd.pinned (.plain (OpenSpec.upto filesNilSpec)) filesNilUptoCard

/-- THE SECOND FORM's CARD OF 'courantlaw23.CompactShort'. -/
def compactShortUptoCard : Claim7 := { stood := { row := compactShortUptoRow, standIns := [], harness := (true, "5c53c85d543df104e3ffb811dc2df52f6ad2ec1d568c9d90d632898765b06b31"), looks := false }, kinds := [], alts := [], laidByText := true, laidKinds := [.data, .pinned], laidTests := true, laidLooks := .later }
def CompactShortUptoCardSaid : Prop := Claim7.holds Tryd.pinned (.plain (OpenSpec.upto compactShortSpec)) compactShortUptoCard

/-- THE SECOND FORM's CARD OF 'courantlaw23.CompactNil'. -/
def compactNilUptoCard : Claim7 := { stood := { row := compactNilUptoRow, standIns := [], harness := (true, "5c53c85d543df104e3ffb811dc2df52f6ad2ec1d568c9d90d632898765b06b31"), looks := false }, kinds := [], alts := [], laidByText := true, laidKinds := [.data, .pinned], laidTests := true, laidLooks := .later }
def CompactNilUptoCardSaid : Prop := Claim7.holds Tryd.pinned (.plain (OpenSpec.upto compactNilSpec)) compactNilUptoCard
end Rows
end Go.Proofs.YthkncfdgfbnchaaDoor
