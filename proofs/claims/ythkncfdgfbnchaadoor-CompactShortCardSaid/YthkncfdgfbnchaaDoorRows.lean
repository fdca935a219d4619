/-
  NARROWER THAN 'FOR EVERY INPUT', by the rows' own cells (each row's printed sentence says how): FilesRoom: laid · FilesSafe: laid · FilesSwap: laid · FilesPlay: laid · FilesNil: laid · CompactShort: laid · CompactNil: laid.
  DERIVED. THE GIVEN ROWS OF THIS SEAT. 7 by the template 'for every input the law returns true; each argument reads behind the call as it read before'; 0 by the template 'total and deterministic' (their statements: YthkncfdgfbnchaaDoorTotals.lean).
  GIVEN WITH THE SEED: the statements are not yours to turn. If you find one false, say at which input.
  Laid BY PROGRAM, IN A SANDBOX (cutbox-rows.mjs): the forced cells as the released guide's own fill.sh prints them over the translation 35a18d181ccd1004… (all of the seat's roots in one cut). By AI agents, Wed Nov 11 2026. No macro, syntax, notation, axiom, sorry.
-/
import Derived.Test.YthkncfdgfbnchaaDoorChecked
import GoSem.PinnedTables
import GoSem.Claim
import GoSem.ClaimJoined
import GoSem.ClaimMapViews
import Derived.JoinedTies
import Derived.KernelRfl
namespace Go.Proofs.YthkncfdgfbnchaaDoor
/- THE CELL 'sum', in the pinned program and in every row, IS THE sha256 OF THE DUMP (.gsa) THAT YthkncfdgfbnchaaDoorProg.lean LOADS. Nothing in Lean hashes anything: it is a label: what it is worth is what the hold of that sum in a sandbox is worth. -/
noncomputable def Tryd.pinned : Pinned := { name := "ythkncfdgfbnchaadoor", sum := "35a18d181ccd10040c994b1b6aa072fa774b90c83be658179a5190d3f0d09eff", checked := Tryd.checked }
namespace Rows
def none {H : Type} : Left H := { results := [], args := [] }

/- WHAT THE LISTED PACKAGE-LEVEL VARIABLES READ AS WHEN THE CALL BEGINS. Each datum BY PROGRAM (the guide's laid-datum.mjs) off the statement by which the dump's own 'gosem.cut.vars' lays the variable. In a bare row this is a premise. The card (YthkncfdgfbnchaaDoorCards.lean) ties it to the program's text. -/
def laid_unicode_utf8_acceptRanges {H : Type} : DataW H := .agg [.agg [.lit (.int .u8 128), .lit (.int .u8 191)], .agg [.lit (.int .u8 160), .lit (.int .u8 191)], .agg [.lit (.int .u8 128), .lit (.int .u8 159)], .agg [.lit (.int .u8 144), .lit (.int .u8 191)], .agg [.lit (.int .u8 128), .lit (.int .u8 143)], .agg [.lit (.int .u8 0), .lit (.int .u8 0)], .agg [.lit (.int .u8 0), .lit (.int .u8 0)], .agg [.lit (.int .u8 0), .lit (.int .u8 0)], .agg [.lit (.int .u8 0), .lit (.int .u8 0)], .agg [.lit (.int .u8 0), .lit (.int .u8 0)], .agg [.lit (.int .u8 0), .lit (.int .u8 0)], .agg [.lit (.int .u8 0), .lit (.int .u8 0)], .agg [.lit (.int .u8 0), .lit (.int .u8 0)], .agg [.lit (.int .u8 0), .lit (.int .u8 0)], .agg [.lit (.int .u8 0), .lit (.int .u8 0)], .agg [.lit (.int .u8 0), .lit (.int .u8 0)]]
/-- One of Go's own tables, pinned by name: the form's constant. -/
def laid_unicode_utf8_first : DataW Unit := Go.Pinned.utf8First

/-- 'courantlaw16.FilesRoom': WHATEVER THE INPUT: true; the input reads as it did. -/
def filesRoomSpec : ChangeSpec := { name := "filesRoom", fn := fun _ => fun
  | [d1, d2] => { results := [.lit (.bool true)], args := [d1, d2] }
  | _ => none }
def filesRoomRow : OpenClaim := { program := "ythkncfdgfbnchaadoor", sum := "35a18d181ccd10040c994b1b6aa072fa774b90c83be658179a5190d3f0d09eff", func := "courant/courantlaw16.FilesRoom", spec := "filesRoom", inPlace := ["internal/bytealg.IndexByteString", "internal/bytealg.IndexString"], unfollowed := true, recurses := true, named := ["unicode/utf8.first", "unicode/utf8.acceptRanges", "internal/bytealg.MaxLen"], apart := false, laid := [("unicode/utf8.acceptRanges", laid_unicode_utf8_acceptRanges), ("unicode/utf8.first", laid_unicode_utf8_first)] }
def FilesRoomSaid : Prop := filesRoomRow.holds Tryd.pinned (OpenSpec.ofChange filesRoomSpec)

/-- ITS FALSE NEIGHBOUR: 'it returns false'. Refute it at one input. -/
def filesRoomWrong : ChangeSpec := { name := "filesRoom", fn := fun _ => fun
  | [d1, d2] => { results := [.lit (.bool false)], args := [d1, d2] }
  | _ => none }
def FilesRoomWrongFalsely : Prop := filesRoomRow.holds Tryd.pinned (OpenSpec.ofChange filesRoomWrong)

/-- 'courantlaw16.FilesSafe': WHATEVER THE INPUT: true; the input reads as it did. -/
def filesSafeSpec : ChangeSpec := { name := "filesSafe", fn := fun _ => fun
  | [d1, d2, d3, d4] => { results := [.lit (.bool true)], args := [d1, d2, d3, d4] }
  | _ => none }
def filesSafeRow : OpenClaim := { program := "ythkncfdgfbnchaadoor", sum := "35a18d181ccd10040c994b1b6aa072fa774b90c83be658179a5190d3f0d09eff", func := "courant/courantlaw16.FilesSafe", spec := "filesSafe", inPlace := ["internal/bytealg.IndexByteString", "internal/bytealg.IndexString"], unfollowed := true, recurses := true, named := ["unicode/utf8.first", "unicode/utf8.acceptRanges", "internal/bytealg.MaxLen"], apart := false, laid := [("unicode/utf8.acceptRanges", laid_unicode_utf8_acceptRanges), ("unicode/utf8.first", laid_unicode_utf8_first)] }
def FilesSafeSaid : Prop := filesSafeRow.holds Tryd.pinned (OpenSpec.ofChange filesSafeSpec)

/-- ITS FALSE NEIGHBOUR: 'it returns false'. Refute it at one input. -/
def filesSafeWrong : ChangeSpec := { name := "filesSafe", fn := fun _ => fun
  | [d1, d2, d3, d4] => { results := [.lit (.bool false)], args := [d1, d2, d3, d4] }
  | _ => none }
def FilesSafeWrongFalsely : Prop := filesSafeRow.holds Tryd.pinned (OpenSpec.ofChange filesSafeWrong)

/-- 'courantlaw16.FilesSwap': WHATEVER THE INPUT: true; the input reads as it did. -/
def filesSwapSpec : ChangeSpec := { name := "filesSwap", fn := fun _ => fun
  | [d1, d2, d3, d4] => { results := [.lit (.bool true)], args := [d1, d2, d3, d4] }
  | _ => none }
def filesSwapRow : OpenClaim := { program := "ythkncfdgfbnchaadoor", sum := "35a18d181ccd10040c994b1b6aa072fa774b90c83be658179a5190d3f0d09eff", func := "courant/courantlaw16.FilesSwap", spec := "filesSwap", inPlace := ["internal/bytealg.IndexByteString", "internal/bytealg.IndexString"], unfollowed := true, recurses := true, named := ["unicode/utf8.first", "unicode/utf8.acceptRanges", "internal/bytealg.MaxLen"], apart := false, laid := [("unicode/utf8.acceptRanges", laid_unicode_utf8_acceptRanges), ("unicode/utf8.first", laid_unicode_utf8_first)] }
def FilesSwapSaid : Prop := filesSwapRow.holds Tryd.pinned (OpenSpec.ofChange filesSwapSpec)

/-- ITS FALSE NEIGHBOUR: 'it returns false'. Refute it at one input. -/
def filesSwapWrong : ChangeSpec := { name := "filesSwap", fn := fun _ => fun
  | [d1, d2, d3, d4] => { results := [.lit (.bool false)], args := [d1, d2, d3, d4] }
  | _ => none }
def FilesSwapWrongFalsely : Prop := filesSwapRow.holds Tryd.pinned (OpenSpec.ofChange filesSwapWrong)

/-- 'courantlaw16.FilesPlay': WHATEVER THE INPUT: true; the input reads as it did. -/
def filesPlaySpec : ChangeSpec := { name := "filesPlay", fn := fun _ => fun
  | [d1, d2] => { results := [.lit (.bool true)], args := [d1, d2] }
  | _ => none }
def filesPlayRow : OpenClaim := { program := "ythkncfdgfbnchaadoor", sum := "35a18d181ccd10040c994b1b6aa072fa774b90c83be658179a5190d3f0d09eff", func := "courant/courantlaw16.FilesPlay", spec := "filesPlay", inPlace := ["internal/bytealg.IndexByteString", "internal/bytealg.IndexString"], unfollowed := true, recurses := true, named := ["unicode/utf8.first", "unicode/utf8.acceptRanges", "internal/bytealg.MaxLen"], apart := false, laid := [("unicode/utf8.acceptRanges", laid_unicode_utf8_acceptRanges), ("unicode/utf8.first", laid_unicode_utf8_first)] }
def FilesPlaySaid : Prop := filesPlayRow.holds Tryd.pinned (OpenSpec.ofChange filesPlaySpec)

/-- ITS FALSE NEIGHBOUR: 'it returns false'. Refute it at one input. -/
def filesPlayWrong : ChangeSpec := { name := "filesPlay", fn := fun _ => fun
  | [d1, d2] => { results := [.lit (.bool false)], args := [d1, d2] }
  | _ => none }
def FilesPlayWrongFalsely : Prop := filesPlayRow.holds Tryd.pinned (OpenSpec.ofChange filesPlayWrong)

/-- 'courantlaw16.FilesNil': WHATEVER THE INPUT: true; the input reads as it did. -/
def filesNilSpec : ChangeSpec := { name := "filesNil", fn := fun _ => fun
  | [d1, d2, d3, d4] => { results := [.lit (.bool true)], args := [d1, d2, d3, d4] }
  | _ => none }
def filesNilRow : OpenClaim := { program := "ythkncfdgfbnchaadoor", sum := "35a18d181ccd10040c994b1b6aa072fa774b90c83be658179a5190d3f0d09eff", func := "courant/courantlaw16.FilesNil", spec := "filesNil", inPlace := ["internal/bytealg.IndexByteString", "internal/bytealg.IndexString"], unfollowed := true, recurses := true, named := ["unicode/utf8.first", "unicode/utf8.acceptRanges", "internal/bytealg.MaxLen"], apart := false, laid := [("unicode/utf8.acceptRanges", laid_unicode_utf8_acceptRanges), ("unicode/utf8.first", laid_unicode_utf8_first)] }
def FilesNilSaid : Prop := filesNilRow.holds Tryd.pinned (OpenSpec.ofChange filesNilSpec)

/-- ITS FALSE NEIGHBOUR: 'it returns false'. Refute it at one input. -/
def filesNilWrong : ChangeSpec := { name := "filesNil", fn := fun _ => fun
  | [d1, d2, d3, d4] => { results := [.lit (.bool false)], args := [d1, d2, d3, d4] }
  | _ => none }
def FilesNilWrongFalsely : Prop := filesNilRow.holds Tryd.pinned (OpenSpec.ofChange filesNilWrong)

/-- 'courantlaw23.CompactShort': WHATEVER THE INPUT: true; the input reads as it did. -/
def compactShortSpec : ChangeSpec := { name := "compactShort", fn := fun _ => fun
  | [d] => { results := [.lit (.bool true)], args := [d] }
  | _ => none }
def compactShortRow : OpenClaim := { program := "ythkncfdgfbnchaadoor", sum := "35a18d181ccd10040c994b1b6aa072fa774b90c83be658179a5190d3f0d09eff", func := "courant/courantlaw23.CompactShort", spec := "compactShort", inPlace := ["internal/bytealg.IndexByteString", "internal/bytealg.IndexString", "slices.overlaps[courant/api.Pair]"], unfollowed := true, recurses := true, named := ["unicode/utf8.first", "unicode/utf8.acceptRanges", "internal/bytealg.MaxLen"], apart := false, laid := [("unicode/utf8.acceptRanges", laid_unicode_utf8_acceptRanges), ("unicode/utf8.first", laid_unicode_utf8_first)] }
def CompactShortSaid : Prop := compactShortRow.holds Tryd.pinned (OpenSpec.ofChange compactShortSpec)

/-- ITS FALSE NEIGHBOUR: 'it returns false'. Refute it at one input. -/
def compactShortWrong : ChangeSpec := { name := "compactShort", fn := fun _ => fun
  | [d] => { results := [.lit (.bool false)], args := [d] }
  | _ => none }
def CompactShortWrongFalsely : Prop := compactShortRow.holds Tryd.pinned (OpenSpec.ofChange compactShortWrong)

/-- 'courantlaw23.CompactNil': WHATEVER THE INPUT: true; the input reads as it did. -/
def compactNilSpec : ChangeSpec := { name := "compactNil", fn := fun _ => fun
  | [d1, d2] => { results := [.lit (.bool true)], args := [d1, d2] }
  | _ => none }
def compactNilRow : OpenClaim := { program := "ythkncfdgfbnchaadoor", sum := "35a18d181ccd10040c994b1b6aa072fa774b90c83be658179a5190d3f0d09eff", func := "courant/courantlaw23.CompactNil", spec := "compactNil", inPlace := ["internal/bytealg.IndexByteString", "internal/bytealg.IndexString", "slices.overlaps[courant/api.Pair]"], unfollowed := true, recurses := true, named := ["unicode/utf8.first", "unicode/utf8.acceptRanges", "internal/bytealg.MaxLen"], apart := false, laid := [("unicode/utf8.acceptRanges", laid_unicode_utf8_acceptRanges), ("unicode/utf8.first", laid_unicode_utf8_first)] }
def CompactNilSaid : Prop := compactNilRow.holds Tryd.pinned (OpenSpec.ofChange compactNilSpec)

/-- ITS FALSE NEIGHBOUR: 'it returns false'. Refute it at one input. -/
def compactNilWrong : ChangeSpec := { name := "compactNil", fn := fun _ => fun
  | [d1, d2] => { results := [.lit (.bool false)], args := [d1, d2] }
  | _ => none }
def CompactNilWrongFalsely : Prop := compactNilRow.holds Tryd.pinned (OpenSpec.ofChange compactNilWrong)

/- THE SECOND FORM. 'bulk': how many values and letters a reading holds, each counted each time it is reached (what is shared counts as often as it is met; a slice's spare places count too). A statement '..UptoSaid' is the law's where the arguments, and the package variables that the reading takes, are together of bulk at most 1048576: NARROWER than '..Said'. Prove '..Said' where nothing that the law and all that it calls make is longer than what came in: it says more and counts as full. Else prove '..UptoSaid'. A law counts once. -/
mutual
def uptoBulk {H : Type} : DataW H → Nat
  | .lit (.string bytes) => bytes.length + 1
  | .lit _ => 1
  | .nil => 1
  | .ptr d => uptoBulk d + 1
  | .slice elems spare => uptoBulkAll elems + uptoBulkAll spare + 1
  | .agg parts => uptoBulkAll parts + 1
  | .iface _ d => uptoBulk d + 1
  | .map entries => uptoBulkEntries entries + 1
  | .held _ => 1
def uptoBulkAll {H : Type} : List (DataW H) → Nat
  | [] => 0
  | d :: r => uptoBulk d + uptoBulkAll r
def uptoBulkEntries {H : Type} : List (Lit × DataW H) → Nat
  | [] => 0
  | x :: r => uptoBulkEntry x + uptoBulkEntries r
def uptoBulkEntry {H : Type} : Lit × DataW H → Nat
  | (.string bytes, d) => bytes.length + uptoBulk d + 1
  | (_, d) => uptoBulk d + 1
 end
def uptoSmall : (H : Type) → List (DataW H) → Bool := fun _ ds => decide (uptoBulkAll ds ≤ 1048576)
def OpenSpec.upto (s : _root_.Go.ChangeSpec) : _root_.Go.OpenSpec := { _root_.Go.OpenSpec.ofChange s with cond := some uptoSmall }

/-- 'courantlaw16.FilesRoom', WHERE WHAT IT READS IS OF BULK AT MOST 1048576: true; the input reads as it did. -/
def filesRoomUptoRow : OpenClaim := { program := "ythkncfdgfbnchaadoor", sum := "35a18d181ccd10040c994b1b6aa072fa774b90c83be658179a5190d3f0d09eff", func := "courant/courantlaw16.FilesRoom", spec := "filesRoom", inPlace := ["internal/bytealg.IndexByteString", "internal/bytealg.IndexString"], unfollowed := true, recurses := true, named := ["unicode/utf8.first", "unicode/utf8.acceptRanges", "internal/bytealg.MaxLen"], apart := false, laid := [("unicode/utf8.acceptRanges", laid_unicode_utf8_acceptRanges), ("unicode/utf8.first", laid_unicode_utf8_first)], narrowed := true }
def FilesRoomUptoSaid : Prop := filesRoomUptoRow.holds Tryd.pinned (OpenSpec.upto filesRoomSpec)

/-- 'courantlaw16.FilesSafe', WHERE WHAT IT READS IS OF BULK AT MOST 1048576: true; the input reads as it did. -/
def filesSafeUptoRow : OpenClaim := { program := "ythkncfdgfbnchaadoor", sum := "35a18d181ccd10040c994b1b6aa072fa774b90c83be658179a5190d3f0d09eff", func := "courant/courantlaw16.FilesSafe", spec := "filesSafe", inPlace := ["internal/bytealg.IndexByteString", "internal/bytealg.IndexString"], unfollowed := true, recurses := true, named := ["unicode/utf8.first", "unicode/utf8.acceptRanges", "internal/bytealg.MaxLen"], apart := false, laid := [("unicode/utf8.acceptRanges", laid_unicode_utf8_acceptRanges), ("unicode/utf8.first", laid_unicode_utf8_first)], narrowed := true }
def FilesSafeUptoSaid : Prop := filesSafeUptoRow.holds Tryd.pinned (OpenSpec.upto filesSafeSpec)

/-- 'courantlaw16.FilesSwap', WHERE WHAT IT READS IS OF BULK AT MOST 1048576: true; the input reads as it did. -/
def filesSwapUptoRow : OpenClaim := { program := "ythkncfdgfbnchaadoor", sum := "35a18d181ccd10040c994b1b6aa072fa774b90c83be658179a5190d3f0d09eff", func := "courant/courantlaw16.FilesSwap", spec := "filesSwap", inPlace := ["internal/bytealg.IndexByteString", "internal/bytealg.IndexString"], unfollowed := true, recurses := true, named := ["unicode/utf8.first", "unicode/utf8.acceptRanges", "internal/bytealg.MaxLen"], apart := false, laid := [("unicode/utf8.acceptRanges", laid_unicode_utf8_acceptRanges), ("unicode/utf8.first", laid_unicode_utf8_first)], narrowed := true }
def FilesSwapUptoSaid : Prop := filesSwapUptoRow.holds Tryd.pinned (OpenSpec.upto filesSwapSpec)

/-- 'courantlaw16.FilesPlay', WHERE WHAT IT READS IS OF BULK AT MOST 1048576: true; the input reads as it did. -/
def filesPlayUptoRow : OpenClaim := { program := "ythkncfdgfbnchaadoor", sum := "35a18d181ccd10040c994b1b6aa072fa774b90c83be658179a5190d3f0d09eff", func := "courant/courantlaw16.FilesPlay", spec := "filesPlay", inPlace := ["internal/bytealg.IndexByteString", "internal/bytealg.IndexString"], unfollowed := true, recurses := true, named := ["unicode/utf8.first", "unicode/utf8.acceptRanges", "internal/bytealg.MaxLen"], apart := false, laid := [("unicode/utf8.acceptRanges", laid_unicode_utf8_acceptRanges), ("unicode/utf8.first", laid_unicode_utf8_first)], narrowed := true }
def FilesPlayUptoSaid : Prop := filesPlayUptoRow.holds Tryd.pinned (OpenSpec.upto filesPlaySpec)

/-- 'courantlaw16.FilesNil', WHERE WHAT IT READS IS OF BULK AT MOST 1048576: true; the input reads as it did. -/
def filesNilUptoRow : OpenClaim := { program := "ythkncfdgfbnchaadoor", sum := "35a18d181ccd10040c994b1b6aa072fa774b90c83be658179a5190d3f0d09eff", func := "courant/courantlaw16.FilesNil", spec := "filesNil", inPlace := ["internal/bytealg.IndexByteString", "internal/bytealg.IndexString"], unfollowed := true, recurses := true, named := ["unicode/utf8.first", "unicode/utf8.acceptRanges", "internal/bytealg.MaxLen"], apart := false, laid := [("unicode/utf8.acceptRanges", laid_unicode_utf8_acceptRanges), ("unicode/utf8.first", laid_unicode_utf8_first)], narrowed := true }
def FilesNilUptoSaid : Prop := filesNilUptoRow.holds Tryd.pinned (OpenSpec.upto filesNilSpec)

/-- 'courantlaw23.CompactShort', WHERE WHAT IT READS IS OF BULK AT MOST 1048576: true; the input reads as it did. -/
def compactShortUptoRow : OpenClaim := { program := "ythkncfdgfbnchaadoor", sum := "35a18d181ccd10040c994b1b6aa072fa774b90c83be658179a5190d3f0d09eff", func := "courant/courantlaw23.CompactShort", spec := "compactShort", inPlace := ["internal/bytealg.IndexByteString", "internal/bytealg.IndexString", "slices.overlaps[courant/api.Pair]"], unfollowed := true, recurses := true, named := ["unicode/utf8.first", "unicode/utf8.acceptRanges", "internal/bytealg.MaxLen"], apart := false, laid := [("unicode/utf8.acceptRanges", laid_unicode_utf8_acceptRanges), ("unicode/utf8.first", laid_unicode_utf8_first)], narrowed := true }
def CompactShortUptoSaid : Prop := compactShortUptoRow.holds Tryd.pinned (OpenSpec.upto compactShortSpec)

/-- 'courantlaw23.CompactNil', WHERE WHAT IT READS IS OF BULK AT MOST 1048576: true; the input reads as it did. -/
def compactNilUptoRow : OpenClaim := { program := "ythkncfdgfbnchaadoor", sum := "35a18d181ccd10040c994b1b6aa072fa774b90c83be658179a5190d3f0d09eff", func := "courant/courantlaw23.CompactNil", spec := "compactNil", inPlace := ["internal/bytealg.IndexByteString", "internal/bytealg.IndexString", "slices.overlaps[courant/api.Pair]"], unfollowed := true, recurses := true, named := ["unicode/utf8.first", "unicode/utf8.acceptRanges", "internal/bytealg.MaxLen"], apart := false, laid := [("unicode/utf8.acceptRanges", laid_unicode_utf8_acceptRanges), ("unicode/utf8.first", laid_unicode_utf8_first)], narrowed := true }
def CompactNilUptoSaid : Prop := compactNilUptoRow.holds Tryd.pinned (OpenSpec.upto compactNilSpec)

end Rows
end Go.Proofs.YthkncfdgfbnchaaDoor
