/-
  DERIVED. GIVEN WITH THE SEED: THE CARDS: each row of YtefpigakhhfcaaaDoorRows.lean that lists a variable, with what it lists TIED to the program's text (the seventh form; the later family's looks); each row that meets fmt, with fmt's text TOLD by the authors' own Lean function (tested against real Go, not proved from fmt's source: count such statements apart). THE CARD IS WHAT COUNTS. Prove the row's statement (the work); the ties are given (YtefpigakhhfcaaaDoorTie.lean); close each card by the builder's one call (the guide's Derived/Test/ToyasCard.lean, 'card_holds'). Laid BY PROGRAM, IN A SANDBOX (cutbox-door.mjs). By AI agents, Wed Nov 11 2026. No macro, syntax, notation, axiom, sorry.
-/
import Derived.Test.YtefpigakhhfcaaaDoorRows
import GoSem.ClaimSeven
namespace Go.Proofs.YtefpigakhhfcaaaDoor
namespace Rows

/-- THE TIED CARD OF 'courantlaw21.SeglogFrom'. -/
def seglogFromCard : Claim7 := { stood := { row := seglogFromRow, standIns := [], harness := (true, "b796a2dc1a95421565835dd755db26a3d44559ee43b84778c8d89f707e7e6a1d"), looks := false }, kinds := [], alts := [], laidByText := true, laidKinds := [.data, .pinned], laidTests := true, laidLooks := .later }
def SeglogFromCardSaid : Prop := Claim7.holds Tryd.pinned (.plain (OpenSpec.ofChange seglogFromSpec)) seglogFromCard

/-- THE TIED CARD OF 'courantlaw21.SeglogApart'. -/
def seglogApartCard : Claim7 := { stood := { row := seglogApartRow, standIns := [], harness := (true, "b796a2dc1a95421565835dd755db26a3d44559ee43b84778c8d89f707e7e6a1d"), looks := false }, kinds := [], alts := [], laidByText := true, laidKinds := [.data, .pinned], laidTests := true, laidLooks := .later }
def SeglogApartCardSaid : Prop := Claim7.holds Tryd.pinned (.plain (OpenSpec.ofChange seglogApartSpec)) seglogApartCard

/-- THE TIED CARD OF 'courantlaw21.SeglogTrims'. -/
def seglogTrimsCard : Claim7 := { stood := { row := seglogTrimsRow, standIns := [], harness := (true, "b796a2dc1a95421565835dd755db26a3d44559ee43b84778c8d89f707e7e6a1d"), looks := false }, kinds := [], alts := [], laidByText := true, laidKinds := [.data, .pinned], laidTests := true, laidLooks := .later }
def SeglogTrimsCardSaid : Prop := Claim7.holds Tryd.pinned (.plain (OpenSpec.ofChange seglogTrimsSpec)) seglogTrimsCard

/-- THE TIED CARD OF 'courantlaw21.SeglogNil'. -/
def seglogNilCard : Claim7 := { stood := { row := seglogNilRow, standIns := [], harness := (true, "b796a2dc1a95421565835dd755db26a3d44559ee43b84778c8d89f707e7e6a1d"), looks := false }, kinds := [], alts := [], laidByText := true, laidKinds := [.data, .pinned], laidTests := true, laidLooks := .later }
def SeglogNilCardSaid : Prop := Claim7.holds Tryd.pinned (.plain (OpenSpec.ofChange seglogNilSpec)) seglogNilCard

/-- THE SECOND FORM's CARD OF 'courantlaw21.SeglogFrom'. -/
def seglogFromUptoCard : Claim7 := { stood := { row := seglogFromUptoRow, standIns := [], harness := (true, "b796a2dc1a95421565835dd755db26a3d44559ee43b84778c8d89f707e7e6a1d"), looks := false }, kinds := [], alts := [], laidByText := true, laidKinds := [.data, .pinned], laidTests := true, laidLooks := .later }
def SeglogFromUptoCardSaid : Prop := Claim7.holds Tryd.pinned (.plain (OpenSpec.upto seglogFromSpec)) seglogFromUptoCard

/-- THE SECOND FORM's CARD OF 'courantlaw21.SeglogApart'. -/
def seglogApartUptoCard : Claim7 := { stood := { row := seglogApartUptoRow, standIns := [], harness := (true, "b796a2dc1a95421565835dd755db26a3d44559ee43b84778c8d89f707e7e6a1d"), looks := false }, kinds := [], alts := [], laidByText := true, laidKinds := [.data, .pinned], laidTests := true, laidLooks := .later }
def SeglogApartUptoCardSaid : Prop := Claim7.holds Tryd.pinned (.plain (OpenSpec.upto seglogApartSpec)) seglogApartUptoCard

/-- THE SECOND FORM's CARD OF 'courantlaw21.SeglogTrims'. -/
def seglogTrimsUptoCard : Claim7 := { stood := { row := seglogTrimsUptoRow, standIns := [], harness := (true, "b796a2dc1a95421565835dd755db26a3d44559ee43b84778c8d89f707e7e6a1d"), looks := false }, kinds := [], alts := [], laidByText := true, laidKinds := [.data, .pinned], laidTests := true, laidLooks := .later }
def SeglogTrimsUptoCardSaid : Prop := Claim7.holds Tryd.pinned (.plain (OpenSpec.upto seglogTrimsSpec)) seglogTrimsUptoCard

/-- THE SECOND FORM's CARD OF 'courantlaw21.SeglogNil'. -/
def seglogNilUptoCard : Claim7 := { stood := { row := seglogNilUptoRow, standIns := [], harness := (true, "b796a2dc1a95421565835dd755db26a3d44559ee43b84778c8d89f707e7e6a1d"), looks := false }, kinds := [], alts := [], laidByText := true, laidKinds := [.data, .pinned], laidTests := true, laidLooks := .later }
def SeglogNilUptoCardSaid : Prop := Claim7.holds Tryd.pinned (.plain (OpenSpec.upto seglogNilSpec)) seglogNilUptoCard
end Rows
end Go.Proofs.YtefpigakhhfcaaaDoor
