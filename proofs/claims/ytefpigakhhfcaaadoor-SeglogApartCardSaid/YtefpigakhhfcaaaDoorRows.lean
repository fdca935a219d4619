/-
  NARROWER THAN 'FOR EVERY INPUT', by the rows' own cells (each row's printed sentence says how): SeglogFrom: laid · SeglogApart: laid · SeglogTrims: laid · SeglogNil: laid.
  DERIVED. THE GIVEN ROWS OF THIS SEAT. 4 by the template 'for every input the law returns true; each argument reads behind the call as it read before'; 0 by the template 'total and deterministic' (their statements: YtefpigakhhfcaaaDoorTotals.lean).
  GIVEN WITH THE SEED: the statements are not yours to turn. If you find one false, say at which input.
  Laid BY PROGRAM, IN A SANDBOX (cutbox-rows.mjs): the forced cells as the released guide's own fill.sh prints them over the translation 3fbcf126ce1a443f… (all of the seat's roots in one cut). By AI agents, Wed Nov 11 2026. No macro, syntax, notation, axiom, sorry.
-/
import Derived.Test.YtefpigakhhfcaaaDoorChecked
import GoSem.PinnedTables
import GoSem.Claim
import GoSem.ClaimJoined
import GoSem.ClaimMapViews
import Derived.JoinedTies
import Derived.KernelRfl
namespace Go.Proofs.YtefpigakhhfcaaaDoor
/- THE CELL 'sum', in the pinned program and in every row, IS THE sha256 OF THE DUMP (.gsa) THAT YtefpigakhhfcaaaDoorProg.lean LOADS. Nothing in Lean hashes anything: it is a label: what it is worth is what the hold of that sum in a sandbox is worth. -/
noncomputable def Tryd.pinned : Pinned := { name := "ytefpigakhhfcaaadoor", sum := "3fbcf126ce1a443fff22c5f3e3b7b5b00b01989657304b2baac4c7a4e5798110", checked := Tryd.checked }
namespace Rows
def none {H : Type} : Left H := { results := [], args := [] }

/- WHAT THE LISTED PACKAGE-LEVEL VARIABLES READ AS WHEN THE CALL BEGINS. Each datum BY PROGRAM (the guide's laid-datum.mjs) off the statement by which the dump's own 'gosem.cut.vars' lays the variable. In a bare row this is a premise. The card (YtefpigakhhfcaaaDoorCards.lean) ties it to the program's text. -/
def laid_unicode_utf8_acceptRanges {H : Type} : DataW H := .agg [.agg [.lit (.int .u8 128), .lit (.int .u8 191)], .agg [.lit (.int .u8 160), .lit (.int .u8 191)], .agg [.lit (.int .u8 128), .lit (.int .u8 159)], .agg [.lit (.int .u8 144), .lit (.int .u8 191)], .agg [.lit (.int .u8 128), .lit (.int .u8 143)], .agg [.lit (.int .u8 0), .lit (.int .u8 0)], .agg [.lit (.int .u8 0), .lit (.int .u8 0)], .agg [.lit (.int .u8 0), .lit (.int .u8 0)], .agg [.lit (.int .u8 0), .lit (.int .u8 0)], .agg [.lit (.int .u8 0), .lit (.int .u8 0)], .agg [.lit (.int .u8 0), .lit (.int .u8 0)], .agg [.lit (.int .u8 0), .lit (.int .u8 0)], .agg [.lit (.int .u8 0), .lit (.int .u8 0)], .agg [.lit (.int .u8 0), .lit (.int .u8 0)], .agg [.lit (.int .u8 0), .lit (.int .u8 0)], .agg [.lit (.int .u8 0), .lit (.int .u8 0)]]
/-- One of Go's own tables, pinned by name: the form's constant. -/
def laid_unicode_utf8_first : DataW Unit := Go.Pinned.utf8First

/-- 'courantlaw21.SeglogFrom': WHATEVER THE INPUT: true; the input reads as it did. -/
def seglogFromSpec : ChangeSpec := { name := "seglogFrom", fn := fun _ => fun
  | [d1, d2, d3] => { results := [.lit (.bool true)], args := [d1, d2, d3] }
  | _ => none }
def seglogFromRow : OpenClaim := { program := "ytefpigakhhfcaaadoor", sum := "3fbcf126ce1a443fff22c5f3e3b7b5b00b01989657304b2baac4c7a4e5798110", func := "courant/courantlaw21.SeglogFrom", spec := "seglogFrom", inPlace := ["internal/bytealg.IndexByteString", "internal/bytealg.IndexString"], unfollowed := true, recurses := true, named := ["unicode/utf8.first", "unicode/utf8.acceptRanges", "internal/bytealg.MaxLen"], apart := false, laid := [("unicode/utf8.acceptRanges", laid_unicode_utf8_acceptRanges), ("unicode/utf8.first", laid_unicode_utf8_first)] }
def SeglogFromSaid : Prop := seglogFromRow.holds Tryd.pinned (OpenSpec.ofChange seglogFromSpec)

/-- ITS FALSE NEIGHBOUR: 'it returns false'. Refute it at one input. -/
def seglogFromWrong : ChangeSpec := { name := "seglogFrom", fn := fun _ => fun
  | [d1, d2, d3] => { results := [.lit (.bool false)], args := [d1, d2, d3] }
  | _ => none }
def SeglogFromWrongFalsely : Prop := seglogFromRow.holds Tryd.pinned (OpenSpec.ofChange seglogFromWrong)

/-- 'courantlaw21.SeglogApart': WHATEVER THE INPUT: true; the input reads as it did. -/
def seglogApartSpec : ChangeSpec := { name := "seglogApart", fn := fun _ => fun
  | [d1, d2] => { results := [.lit (.bool true)], args := [d1, d2] }
  | _ => none }
def seglogApartRow : OpenClaim := { program := "ytefpigakhhfcaaadoor", sum := "3fbcf126ce1a443fff22c5f3e3b7b5b00b01989657304b2baac4c7a4e5798110", func := "courant/courantlaw21.SeglogApart", spec := "seglogApart", inPlace := ["internal/bytealg.IndexByteString", "internal/bytealg.IndexString"], unfollowed := true, recurses := true, named := ["unicode/utf8.first", "unicode/utf8.acceptRanges", "internal/bytealg.MaxLen"], apart := false, laid := [("unicode/utf8.acceptRanges", laid_unicode_utf8_acceptRanges), ("unicode/utf8.first", laid_unicode_utf8_first)] }
def SeglogApartSaid : Prop := seglogApartRow.holds Tryd.pinned (OpenSpec.ofChange seglogApartSpec)

/-- ITS FALSE NEIGHBOUR: 'it returns false'. Refute it at one input. -/
def seglogApartWrong : ChangeSpec := { name := "seglogApart", fn := fun _ => fun
  | [d1, d2] => { results := [.lit (.bool false)], args := [d1, d2] }
  | _ => none }
def SeglogApartWrongFalsely : Prop := seglogApartRow.holds Tryd.pinned (OpenSpec.ofChange seglogApartWrong)

/-- 'courantlaw21.SeglogTrims': WHATEVER THE INPUT: true; the input reads as it did. -/
def seglogTrimsSpec : ChangeSpec := { name := "seglogTrims", fn := fun _ => fun
  | [d1, d2] => { results := [.lit (.bool true)], args := [d1, d2] }
  | _ => none }
def seglogTrimsRow : OpenClaim := { program := "ytefpigakhhfcaaadoor", sum := "3fbcf126ce1a443fff22c5f3e3b7b5b00b01989657304b2baac4c7a4e5798110", func := "courant/courantlaw21.SeglogTrims", spec := "seglogTrims", inPlace := ["internal/bytealg.IndexByteString", "internal/bytealg.IndexString"], unfollowed := true, recurses := true, named := ["unicode/utf8.first", "unicode/utf8.acceptRanges", "internal/bytealg.MaxLen"], apart := false, laid := [("unicode/utf8.acceptRanges", laid_unicode_utf8_acceptRanges), ("unicode/utf8.first", laid_unicode_utf8_first)] }
def SeglogTrimsSaid : Prop := seglogTrimsRow.holds Tryd.pinned (OpenSpec.ofChange seglogTrimsSpec)

/-- ITS FALSE NEIGHBOUR: 'it returns false'. Refute it at one input. -/
def seglogTrimsWrong : ChangeSpec := { name := "seglogTrims", fn := fun _ => fun
  | [d1, d2] => { results := [.lit (.bool false)], args := [d1, d2] }
  | _ => none }
def SeglogTrimsWrongFalsely : Prop := seglogTrimsRow.holds Tryd.pinned (OpenSpec.ofChange seglogTrimsWrong)

/-- 'courantlaw21.SeglogNil': WHATEVER THE INPUT: true; the input reads as it did. -/
def seglogNilSpec : ChangeSpec := { name := "seglogNil", fn := fun _ => fun
  | [d1, d2, d3, d4] => { results := [.lit (.bool true)], args := [d1, d2, d3, d4] }
  | _ => none }
def seglogNilRow : OpenClaim := { program := "ytefpigakhhfcaaadoor", sum := "3fbcf126ce1a443fff22c5f3e3b7b5b00b01989657304b2baac4c7a4e5798110", func := "courant/courantlaw21.SeglogNil", spec := "seglogNil", inPlace := ["internal/bytealg.IndexByteString", "internal/bytealg.IndexString"], unfollowed := true, recurses := true, named := ["unicode/utf8.first", "unicode/utf8.acceptRanges", "internal/bytealg.MaxLen"], apart := false, laid := [("unicode/utf8.acceptRanges", laid_unicode_utf8_acceptRanges), ("unicode/utf8.first", laid_unicode_utf8_first)] }
def SeglogNilSaid : Prop := seglogNilRow.holds Tryd.pinned (OpenSpec.ofChange seglogNilSpec)

/-- ITS FALSE NEIGHBOUR: 'it returns false'. Refute it at one input. -/
def seglogNilWrong : ChangeSpec := { name := "seglogNil", fn := fun _ => fun
  | [d1, d2, d3, d4] => { results := [.lit (.bool false)], args := [d1, d2, d3, d4] }
  | _ => none }
def SeglogNilWrongFalsely : Prop := seglogNilRow.holds Tryd.pinned (OpenSpec.ofChange seglogNilWrong)

/- THE SECOND FORM. 'bulk': how many values and letters a reading holds, each counted each time it is reached (what is shared counts as often as it is met; a slice's spare places count too). A statement '..UptoSaid' is the law's where the arguments, and the package variables that the reading takes, are together of bulk at most 1048576: NARROWER than '..Said'. Prove '..Said' where nothing that the law and all that it calls make is longer than what came in: it says more and counts as full. Else prove '..UptoSaid'. A law counts once. -/
mutual
def uptoBulk {H : Type} : DataW H → Nat
  | .lit (.string bytes) => bytes.length + 1
  | .lit _ => 1
  | .nil => 1
  | .ptr d => uptoBulk d + 1
  | .slice elems spare => uptoBulkAll elems + uptoBulkAll spare + 1
  | .agg parts => uptoBulkAll parts + 1
  | .iface _ d => uptoBulk d + 1
  | .map entries => uptoBulkEntries entries + 1
  | .held _ => 1
def uptoBulkAll {H : Type} : List (DataW H) → Nat
  | [] => 0
  | d :: r => uptoBulk d + uptoBulkAll r
def uptoBulkEntries {H : Type} : List (Lit × DataW H) → Nat
  | [] => 0
  | x :: r => uptoBulkEntry x + uptoBulkEntries r
def uptoBulkEntry {H : Type} : Lit × DataW H → Nat
  | (.string bytes, d) => bytes.length + uptoBulk d + 1
  | (_, d) => uptoBulk d + 1
 end
def uptoSmall : (H : Type) → List (DataW H) → Bool := fun _ ds => decide (uptoBulkAll ds ≤ 1048576)
def OpenSpec.upto (s : _root_.Go.ChangeSpec) : _root_.Go.OpenSpec := { _root_.Go.OpenSpec.ofChange s with cond := some uptoSmall }

/-- 'courantlaw21.SeglogFrom', WHERE WHAT IT READS IS OF BULK AT MOST 1048576: true; the input reads as it did. -/
def seglogFromUptoRow : OpenClaim := { program := "ytefpigakhhfcaaadoor", sum := "3fbcf126ce1a443fff22c5f3e3b7b5b00b01989657304b2baac4c7a4e5798110", func := "courant/courantlaw21.SeglogFrom", spec := "seglogFrom", inPlace := ["internal/bytealg.IndexByteString", "internal/bytealg.IndexString"], unfollowed := true, recurses := true, named := ["unicode/utf8.first", "unicode/utf8.acceptRanges", "internal/bytealg.MaxLen"], apart := false, laid := [("unicode/utf8.acceptRanges", laid_unicode_utf8_acceptRanges), ("unicode/utf8.first", laid_unicode_utf8_first)], narrowed := true }
def SeglogFromUptoSaid : Prop := seglogFromUptoRow.holds Tryd.pinned (OpenSpec.upto seglogFromSpec)

/-- 'courantlaw21.SeglogApart', WHERE WHAT IT READS IS OF BULK AT MOST 1048576: true; the input reads as it did. -/
def seglogApartUptoRow : OpenClaim := { program := "ytefpigakhhfcaaadoor", sum := "3fbcf126ce1a443fff22c5f3e3b7b5b00b01989657304b2baac4c7a4e5798110", func := "courant/courantlaw21.SeglogApart", spec := "seglogApart", inPlace := ["internal/bytealg.IndexByteString", "internal/bytealg.IndexString"], unfollowed := true, recurses := true, named := ["unicode/utf8.first", "unicode/utf8.acceptRanges", "internal/bytealg.MaxLen"], apart := false, laid := [("unicode/utf8.acceptRanges", laid_unicode_utf8_acceptRanges), ("unicode/utf8.first", laid_unicode_utf8_first)], narrowed := true }
def SeglogApartUptoSaid : Prop := seglogApartUptoRow.holds Tryd.pinned (OpenSpec.upto seglogApartSpec)

/-- 'courantlaw21.SeglogTrims', WHERE WHAT IT READS IS OF BULK AT MOST 1048576: true; the input reads as it did. -/
def seglogTrimsUptoRow : OpenClaim := { program := "ytefpigakhhfcaaadoor", sum := "3fbcf126ce1a443fff22c5f3e3b7b5b00b01989657304b2baac4c7a4e5798110", func := "courant/courantlaw21.SeglogTrims", spec := "seglogTrims", inPlace := ["internal/bytealg.IndexByteString", "internal/bytealg.IndexString"], unfollowed := true, recurses := true, named := ["unicode/utf8.first", "unicode/utf8.acceptRanges", "internal/bytealg.MaxLen"], apart := false, laid := [("unicode/utf8.acceptRanges", laid_unicode_utf8_acceptRanges), ("unicode/utf8.first", laid_unicode_utf8_first)], narrowed := true }
def SeglogTrimsUptoSaid : Prop := seglogTrimsUptoRow.holds Tryd.pinned (OpenSpec.upto seglogTrimsSpec)

/-- 'courantlaw21.SeglogNil', WHERE WHAT IT READS IS OF BULK AT MOST 1048576: true; the input reads as it did. -/
def seglogNilUptoRow : OpenClaim := { program := "ytefpigakhhfcaaadoor", sum := "3fbcf126ce1a443fff22c5f3e3b7b5b00b01989657304b2baac4c7a4e5798110", func := "courant/courantlaw21.SeglogNil", spec := "seglogNil", inPlace := ["internal/bytealg.IndexByteString", "internal/bytealg.IndexString"], unfollowed := true, recurses := true, named := ["unicode/utf8.first", "unicode/utf8.acceptRanges", "internal/bytealg.MaxLen"], apart := false, laid := [("unicode/utf8.acceptRanges", laid_unicode_utf8_acceptRanges), ("unicode/utf8.first", laid_unicode_utf8_first)], narrowed := true }
def SeglogNilUptoSaid : Prop := seglogNilUptoRow.holds Tryd.pinned (OpenSpec.upto seglogNilSpec)

end Rows
end Go.Proofs.YtefpigakhhfcaaaDoor
