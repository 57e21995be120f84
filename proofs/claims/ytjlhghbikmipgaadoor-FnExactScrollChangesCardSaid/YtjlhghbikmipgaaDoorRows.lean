/-
  NARROWER THAN 'FOR EVERY INPUT', by the rows' own cells (each row's printed sentence says how): FnExactIsWord: laid · FnExactLetterCell: laid · FnExactRowOfWord: laid · FnExactWordLit: laid · FnExactWordChanges: laid · FnExactScrollRows: laid · FnExactScrollChanges: laid.
  DERIVED. THE GIVEN ROWS OF THIS SEAT. 7 by the template 'for every input the law returns true; each argument reads behind the call as it read before'; 0 by the template 'total and deterministic' (their statements: YtjlhghbikmipgaaDoorTotals.lean).
  GIVEN WITH THE SEED: the statements are not yours to turn. If you find one false, say at which input.
  Laid BY PROGRAM, IN A SANDBOX (cutbox-rows.mjs): the forced cells as the released guide's own fill.sh prints them over the translation 05a96f0ca534b5b7… (all of the seat's roots in one cut). By AI agents, Wed Nov 11 2026. No macro, syntax, notation, axiom, sorry.
-/
import Derived.Test.YtjlhghbikmipgaaDoorChecked
import GoSem.PinnedTables
import GoSem.Claim
import GoSem.ClaimJoined
import GoSem.ClaimMapViews
import Derived.JoinedTies
import Derived.KernelRfl
namespace Go.Proofs.YtjlhghbikmipgaaDoor
/- THE CELL 'sum', in the pinned program and in every row, IS THE sha256 OF THE DUMP (.gsa) THAT YtjlhghbikmipgaaDoorProg.lean LOADS. Nothing in Lean hashes anything: it is a label: what it is worth is what the hold of that sum in a sandbox is worth. -/
noncomputable def Tryd.pinned : Pinned := { name := "ytjlhghbikmipgaadoor", sum := "05a96f0ca534b5b77af581f351c705a3a19182b5acbb35c16e45c47bd6599008", checked := Tryd.checked }
namespace Rows
def none {H : Type} : Left H := { results := [], args := [] }

/- WHAT THE LISTED PACKAGE-LEVEL VARIABLES READ AS WHEN THE CALL BEGINS. Each datum BY PROGRAM (the guide's laid-datum.mjs) off the statement by which the dump's own 'gosem.cut.vars' lays the variable. In a bare row this is a premise. The card (YtjlhghbikmipgaaDoorCards.lean) ties it to the program's text. -/
def laid_unicode_utf8_acceptRanges {H : Type} : DataW H := .agg [.agg [.lit (.int .u8 128), .lit (.int .u8 191)], .agg [.lit (.int .u8 160), .lit (.int .u8 191)], .agg [.lit (.int .u8 128), .lit (.int .u8 159)], .agg [.lit (.int .u8 144), .lit (.int .u8 191)], .agg [.lit (.int .u8 128), .lit (.int .u8 143)], .agg [.lit (.int .u8 0), .lit (.int .u8 0)], .agg [.lit (.int .u8 0), .lit (.int .u8 0)], .agg [.lit (.int .u8 0), .lit (.int .u8 0)], .agg [.lit (.int .u8 0), .lit (.int .u8 0)], .agg [.lit (.int .u8 0), .lit (.int .u8 0)], .agg [.lit (.int .u8 0), .lit (.int .u8 0)], .agg [.lit (.int .u8 0), .lit (.int .u8 0)], .agg [.lit (.int .u8 0), .lit (.int .u8 0)], .agg [.lit (.int .u8 0), .lit (.int .u8 0)], .agg [.lit (.int .u8 0), .lit (.int .u8 0)], .agg [.lit (.int .u8 0), .lit (.int .u8 0)]]
/-- One of Go's own tables, pinned by name: the form's constant. -/
def laid_unicode_utf8_first : DataW Unit := Go.Pinned.utf8First

/-- 'laws.FnExactIsWord': WHATEVER THE INPUT: true; the input reads as it did. -/
def fnExactIsWordSpec : ChangeSpec := { name := "fnExactIsWord", fn := fun _ => fun
  | [d] => { results := [.lit (.bool true)], args := [d] }
  | _ => none }
def fnExactIsWordRow : OpenClaim := { program := "ytjlhghbikmipgaadoor", sum := "05a96f0ca534b5b77af581f351c705a3a19182b5acbb35c16e45c47bd6599008", func := "loop.example/g01265/laws.FnExactIsWord", spec := "fnExactIsWord", inPlace := ["internal/bytealg.IndexByteString", "internal/bytealg.IndexString"], named := ["unicode/utf8.first", "unicode/utf8.acceptRanges", "internal/bytealg.MaxLen"], apart := false, laid := [("unicode/utf8.acceptRanges", laid_unicode_utf8_acceptRanges), ("unicode/utf8.first", laid_unicode_utf8_first)] }
def FnExactIsWordSaid : Prop := fnExactIsWordRow.holds Tryd.pinned (OpenSpec.ofChange fnExactIsWordSpec)

/-- ITS FALSE NEIGHBOUR: 'it returns false'. Refute it at one input. -/
def fnExactIsWordWrong : ChangeSpec := { name := "fnExactIsWord", fn := fun _ => fun
  | [d] => { results := [.lit (.bool false)], args := [d] }
  | _ => none }
def FnExactIsWordWrongFalsely : Prop := fnExactIsWordRow.holds Tryd.pinned (OpenSpec.ofChange fnExactIsWordWrong)

/-- 'laws.FnExactLetterCell': WHATEVER THE INPUT: true; the input reads as it did. -/
def fnExactLetterCellSpec : ChangeSpec := { name := "fnExactLetterCell", fn := fun _ => fun
  | [d] => { results := [.lit (.bool true)], args := [d] }
  | _ => none }
def fnExactLetterCellRow : OpenClaim := { program := "ytjlhghbikmipgaadoor", sum := "05a96f0ca534b5b77af581f351c705a3a19182b5acbb35c16e45c47bd6599008", func := "loop.example/g01265/laws.FnExactLetterCell", spec := "fnExactLetterCell", inPlace := ["internal/bytealg.IndexByteString", "internal/bytealg.IndexString"], named := ["unicode/utf8.first", "unicode/utf8.acceptRanges", "internal/bytealg.MaxLen"], apart := false, laid := [("unicode/utf8.acceptRanges", laid_unicode_utf8_acceptRanges), ("unicode/utf8.first", laid_unicode_utf8_first)] }
def FnExactLetterCellSaid : Prop := fnExactLetterCellRow.holds Tryd.pinned (OpenSpec.ofChange fnExactLetterCellSpec)

/-- ITS FALSE NEIGHBOUR: 'it returns false'. Refute it at one input. -/
def fnExactLetterCellWrong : ChangeSpec := { name := "fnExactLetterCell", fn := fun _ => fun
  | [d] => { results := [.lit (.bool false)], args := [d] }
  | _ => none }
def FnExactLetterCellWrongFalsely : Prop := fnExactLetterCellRow.holds Tryd.pinned (OpenSpec.ofChange fnExactLetterCellWrong)

/-- 'laws.FnExactRowOfWord': WHATEVER THE INPUT: true; the input reads as it did. -/
def fnExactRowOfWordSpec : ChangeSpec := { name := "fnExactRowOfWord", fn := fun _ => fun
  | [d] => { results := [.lit (.bool true)], args := [d] }
  | _ => none }
def fnExactRowOfWordRow : OpenClaim := { program := "ytjlhghbikmipgaadoor", sum := "05a96f0ca534b5b77af581f351c705a3a19182b5acbb35c16e45c47bd6599008", func := "loop.example/g01265/laws.FnExactRowOfWord", spec := "fnExactRowOfWord", inPlace := ["internal/bytealg.IndexByteString", "internal/bytealg.IndexString"], named := ["unicode/utf8.first", "unicode/utf8.acceptRanges", "internal/bytealg.MaxLen"], apart := false, laid := [("unicode/utf8.acceptRanges", laid_unicode_utf8_acceptRanges), ("unicode/utf8.first", laid_unicode_utf8_first)] }
def FnExactRowOfWordSaid : Prop := fnExactRowOfWordRow.holds Tryd.pinned (OpenSpec.ofChange fnExactRowOfWordSpec)

/-- ITS FALSE NEIGHBOUR: 'it returns false'. Refute it at one input. -/
def fnExactRowOfWordWrong : ChangeSpec := { name := "fnExactRowOfWord", fn := fun _ => fun
  | [d] => { results := [.lit (.bool false)], args := [d] }
  | _ => none }
def FnExactRowOfWordWrongFalsely : Prop := fnExactRowOfWordRow.holds Tryd.pinned (OpenSpec.ofChange fnExactRowOfWordWrong)

/-- 'laws.FnExactWordLit': WHATEVER THE INPUT: true; the input reads as it did. -/
def fnExactWordLitSpec : ChangeSpec := { name := "fnExactWordLit", fn := fun _ => fun
  | [d] => { results := [.lit (.bool true)], args := [d] }
  | _ => none }
def fnExactWordLitRow : OpenClaim := { program := "ytjlhghbikmipgaadoor", sum := "05a96f0ca534b5b77af581f351c705a3a19182b5acbb35c16e45c47bd6599008", func := "loop.example/g01265/laws.FnExactWordLit", spec := "fnExactWordLit", inPlace := ["internal/bytealg.IndexByteString", "internal/bytealg.IndexString"], named := ["unicode/utf8.first", "unicode/utf8.acceptRanges", "internal/bytealg.MaxLen"], apart := false, laid := [("unicode/utf8.acceptRanges", laid_unicode_utf8_acceptRanges), ("unicode/utf8.first", laid_unicode_utf8_first)] }
def FnExactWordLitSaid : Prop := fnExactWordLitRow.holds Tryd.pinned (OpenSpec.ofChange fnExactWordLitSpec)

/-- ITS FALSE NEIGHBOUR: 'it returns false'. Refute it at one input. -/
def fnExactWordLitWrong : ChangeSpec := { name := "fnExactWordLit", fn := fun _ => fun
  | [d] => { results := [.lit (.bool false)], args := [d] }
  | _ => none }
def FnExactWordLitWrongFalsely : Prop := fnExactWordLitRow.holds Tryd.pinned (OpenSpec.ofChange fnExactWordLitWrong)

/-- 'laws.FnExactWordChanges': WHATEVER THE INPUT: true; the input reads as it did. -/
def fnExactWordChangesSpec : ChangeSpec := { name := "fnExactWordChanges", fn := fun _ => fun
  | [d1, d2] => { results := [.lit (.bool true)], args := [d1, d2] }
  | _ => none }
def fnExactWordChangesRow : OpenClaim := { program := "ytjlhghbikmipgaadoor", sum := "05a96f0ca534b5b77af581f351c705a3a19182b5acbb35c16e45c47bd6599008", func := "loop.example/g01265/laws.FnExactWordChanges", spec := "fnExactWordChanges", inPlace := ["internal/bytealg.IndexByteString", "internal/bytealg.IndexString"], named := ["unicode/utf8.first", "unicode/utf8.acceptRanges", "internal/bytealg.MaxLen"], apart := false, laid := [("unicode/utf8.acceptRanges", laid_unicode_utf8_acceptRanges), ("unicode/utf8.first", laid_unicode_utf8_first)] }
def FnExactWordChangesSaid : Prop := fnExactWordChangesRow.holds Tryd.pinned (OpenSpec.ofChange fnExactWordChangesSpec)

/-- ITS FALSE NEIGHBOUR: 'it returns false'. Refute it at one input. -/
def fnExactWordChangesWrong : ChangeSpec := { name := "fnExactWordChanges", fn := fun _ => fun
  | [d1, d2] => { results := [.lit (.bool false)], args := [d1, d2] }
  | _ => none }
def FnExactWordChangesWrongFalsely : Prop := fnExactWordChangesRow.holds Tryd.pinned (OpenSpec.ofChange fnExactWordChangesWrong)

/-- 'laws.FnExactScrollRows': WHATEVER THE INPUT: true; the input reads as it did. -/
def fnExactScrollRowsSpec : ChangeSpec := { name := "fnExactScrollRows", fn := fun _ => fun
  | [d1, d2] => { results := [.lit (.bool true)], args := [d1, d2] }
  | _ => none }
def fnExactScrollRowsRow : OpenClaim := { program := "ytjlhghbikmipgaadoor", sum := "05a96f0ca534b5b77af581f351c705a3a19182b5acbb35c16e45c47bd6599008", func := "loop.example/g01265/laws.FnExactScrollRows", spec := "fnExactScrollRows", inPlace := ["internal/bytealg.IndexByteString", "internal/bytealg.IndexString"], named := ["unicode/utf8.first", "unicode/utf8.acceptRanges", "internal/bytealg.MaxLen"], apart := false, laid := [("unicode/utf8.acceptRanges", laid_unicode_utf8_acceptRanges), ("unicode/utf8.first", laid_unicode_utf8_first)] }
def FnExactScrollRowsSaid : Prop := fnExactScrollRowsRow.holds Tryd.pinned (OpenSpec.ofChange fnExactScrollRowsSpec)

/-- ITS FALSE NEIGHBOUR: 'it returns false'. Refute it at one input. -/
def fnExactScrollRowsWrong : ChangeSpec := { name := "fnExactScrollRows", fn := fun _ => fun
  | [d1, d2] => { results := [.lit (.bool false)], args := [d1, d2] }
  | _ => none }
def FnExactScrollRowsWrongFalsely : Prop := fnExactScrollRowsRow.holds Tryd.pinned (OpenSpec.ofChange fnExactScrollRowsWrong)

/-- 'laws.FnExactScrollChanges': WHATEVER THE INPUT: true; the input reads as it did. -/
def fnExactScrollChangesSpec : ChangeSpec := { name := "fnExactScrollChanges", fn := fun _ => fun
  | [d1, d2] => { results := [.lit (.bool true)], args := [d1, d2] }
  | _ => none }
def fnExactScrollChangesRow : OpenClaim := { program := "ytjlhghbikmipgaadoor", sum := "05a96f0ca534b5b77af581f351c705a3a19182b5acbb35c16e45c47bd6599008", func := "loop.example/g01265/laws.FnExactScrollChanges", spec := "fnExactScrollChanges", inPlace := ["internal/bytealg.IndexByteString", "internal/bytealg.IndexString"], named := ["unicode/utf8.first", "unicode/utf8.acceptRanges", "internal/bytealg.MaxLen"], apart := false, laid := [("unicode/utf8.acceptRanges", laid_unicode_utf8_acceptRanges), ("unicode/utf8.first", laid_unicode_utf8_first)] }
def FnExactScrollChangesSaid : Prop := fnExactScrollChangesRow.holds Tryd.pinned (OpenSpec.ofChange fnExactScrollChangesSpec)

/-- ITS FALSE NEIGHBOUR: 'it returns false'. Refute it at one input. -/
def fnExactScrollChangesWrong : ChangeSpec := { name := "fnExactScrollChanges", fn := fun _ => fun
  | [d1, d2] => { results := [.lit (.bool false)], args := [d1, d2] }
  | _ => none }
def FnExactScrollChangesWrongFalsely : Prop := fnExactScrollChangesRow.holds Tryd.pinned (OpenSpec.ofChange fnExactScrollChangesWrong)

/- THE SECOND FORM. 'bulk': how many values and letters a reading holds, each counted each time it is reached (what is shared counts as often as it is met; a slice's spare places count too). A statement '..UptoSaid' is the law's where the arguments, and the package variables that the reading takes, are together of bulk at most 1048576: NARROWER than '..Said'. Prove '..Said' where nothing that the law and all that it calls make is longer than what came in: it says more and counts as full. Else prove '..UptoSaid'. A law counts once. -/
mutual
def uptoBulk {H : Type} : DataW H → Nat
  | .lit (.string bytes) => bytes.length + 1
  | .lit _ => 1
  | .nil => 1
  | .ptr d => uptoBulk d + 1
  | .slice elems spare => uptoBulkAll elems + uptoBulkAll spare + 1
  | .agg parts => uptoBulkAll parts + 1
  | .iface _ d => uptoBulk d + 1
  | .map entries => uptoBulkEntries entries + 1
  | .held _ => 1
def uptoBulkAll {H : Type} : List (DataW H) → Nat
  | [] => 0
  | d :: r => uptoBulk d + uptoBulkAll r
def uptoBulkEntries {H : Type} : List (Lit × DataW H) → Nat
  | [] => 0
  | x :: r => uptoBulkEntry x + uptoBulkEntries r
def uptoBulkEntry {H : Type} : Lit × DataW H → Nat
  | (.string bytes, d) => bytes.length + uptoBulk d + 1
  | (_, d) => uptoBulk d + 1
 end
def uptoSmall : (H : Type) → List (DataW H) → Bool := fun _ ds => decide (uptoBulkAll ds ≤ 1048576)
def OpenSpec.upto (s : _root_.Go.ChangeSpec) : _root_.Go.OpenSpec := { _root_.Go.OpenSpec.ofChange s with cond := some uptoSmall }

/-- 'laws.FnExactIsWord', WHERE WHAT IT READS IS OF BULK AT MOST 1048576: true; the input reads as it did. -/
def fnExactIsWordUptoRow : OpenClaim := { program := "ytjlhghbikmipgaadoor", sum := "05a96f0ca534b5b77af581f351c705a3a19182b5acbb35c16e45c47bd6599008", func := "loop.example/g01265/laws.FnExactIsWord", spec := "fnExactIsWord", inPlace := ["internal/bytealg.IndexByteString", "internal/bytealg.IndexString"], named := ["unicode/utf8.first", "unicode/utf8.acceptRanges", "internal/bytealg.MaxLen"], apart := false, laid := [("unicode/utf8.acceptRanges", laid_unicode_utf8_acceptRanges), ("unicode/utf8.first", laid_unicode_utf8_first)], narrowed := true }
def FnExactIsWordUptoSaid : Prop := fnExactIsWordUptoRow.holds Tryd.pinned (OpenSpec.upto fnExactIsWordSpec)

/-- 'laws.FnExactLetterCell', WHERE WHAT IT READS IS OF BULK AT MOST 1048576: true; the input reads as it did. -/
def fnExactLetterCellUptoRow : OpenClaim := { program := "ytjlhghbikmipgaadoor", sum := "05a96f0ca534b5b77af581f351c705a3a19182b5acbb35c16e45c47bd6599008", func := "loop.example/g01265/laws.FnExactLetterCell", spec := "fnExactLetterCell", inPlace := ["internal/bytealg.IndexByteString", "internal/bytealg.IndexString"], named := ["unicode/utf8.first", "unicode/utf8.acceptRanges", "internal/bytealg.MaxLen"], apart := false, laid := [("unicode/utf8.acceptRanges", laid_unicode_utf8_acceptRanges), ("unicode/utf8.first", laid_unicode_utf8_first)], narrowed := true }
def FnExactLetterCellUptoSaid : Prop := fnExactLetterCellUptoRow.holds Tryd.pinned (OpenSpec.upto fnExactLetterCellSpec)

/-- 'laws.FnExactRowOfWord', WHERE WHAT IT READS IS OF BULK AT MOST 1048576: true; the input reads as it did. -/
def fnExactRowOfWordUptoRow : OpenClaim := { program := "ytjlhghbikmipgaadoor", sum := "05a96f0ca534b5b77af581f351c705a3a19182b5acbb35c16e45c47bd6599008", func := "loop.example/g01265/laws.FnExactRowOfWord", spec := "fnExactRowOfWord", inPlace := ["internal/bytealg.IndexByteString", "internal/bytealg.IndexString"], named := ["unicode/utf8.first", "unicode/utf8.acceptRanges", "internal/bytealg.MaxLen"], apart := false, laid := [("unicode/utf8.acceptRanges", laid_unicode_utf8_acceptRanges), ("unicode/utf8.first", laid_unicode_utf8_first)], narrowed := true }
def FnExactRowOfWordUptoSaid : Prop := fnExactRowOfWordUptoRow.holds Tryd.pinned (OpenSpec.upto fnExactRowOfWordSpec)

/-- 'laws.FnExactWordLit', WHERE WHAT IT READS IS OF BULK AT MOST 1048576: true; the input reads as it did. -/
def fnExactWordLitUptoRow : OpenClaim := { program := "ytjlhghbikmipgaadoor", sum := "05a96f0ca534b5b77af581f351c705a3a19182b5acbb35c16e45c47bd6599008", func := "loop.example/g01265/laws.FnExactWordLit", spec := "fnExactWordLit", inPlace := ["internal/bytealg.IndexByteString", "internal/bytealg.IndexString"], named := ["unicode/utf8.first", "unicode/utf8.acceptRanges", "internal/bytealg.MaxLen"], apart := false, laid := [("unicode/utf8.acceptRanges", laid_unicode_utf8_acceptRanges), ("unicode/utf8.first", laid_unicode_utf8_first)], narrowed := true }
def FnExactWordLitUptoSaid : Prop := fnExactWordLitUptoRow.holds Tryd.pinned (OpenSpec.upto fnExactWordLitSpec)

/-- 'laws.FnExactWordChanges', WHERE WHAT IT READS IS OF BULK AT MOST 1048576: true; the input reads as it did. -/
def fnExactWordChangesUptoRow : OpenClaim := { program := "ytjlhghbikmipgaadoor", sum := "05a96f0ca534b5b77af581f351c705a3a19182b5acbb35c16e45c47bd6599008", func := "loop.example/g01265/laws.FnExactWordChanges", spec := "fnExactWordChanges", inPlace := ["internal/bytealg.IndexByteString", "internal/bytealg.IndexString"], named := ["unicode/utf8.first", "unicode/utf8.acceptRanges", "internal/bytealg.MaxLen"], apart := false, laid := [("unicode/utf8.acceptRanges", laid_unicode_utf8_acceptRanges), ("unicode/utf8.first", laid_unicode_utf8_first)], narrowed := true }
def FnExactWordChangesUptoSaid : Prop := fnExactWordChangesUptoRow.holds Tryd.pinned (OpenSpec.upto fnExactWordChangesSpec)

/-- 'laws.FnExactScrollRows', WHERE WHAT IT READS IS OF BULK AT MOST 1048576: true; the input reads as it did. -/
def fnExactScrollRowsUptoRow : OpenClaim := { program := "ytjlhghbikmipgaadoor", sum := "05a96f0ca534b5b77af581f351c705a3a19182b5acbb35c16e45c47bd6599008", func := "loop.example/g01265/laws.FnExactScrollRows", spec := "fnExactScrollRows", inPlace := ["internal/bytealg.IndexByteString", "internal/bytealg.IndexString"], named := ["unicode/utf8.first", "unicode/utf8.acceptRanges", "internal/bytealg.MaxLen"], apart := false, laid := [("unicode/utf8.acceptRanges", laid_unicode_utf8_acceptRanges), ("unicode/utf8.first", laid_unicode_utf8_first)], narrowed := true }
def FnExactScrollRowsUptoSaid : Prop := fnExactScrollRowsUptoRow.holds Tryd.pinned (OpenSpec.upto fnExactScrollRowsSpec)

/-- 'laws.FnExactScrollChanges', WHERE WHAT IT READS IS OF BULK AT MOST 1048576: true; the input reads as it did. -/
def fnExactScrollChangesUptoRow : OpenClaim := { program := "ytjlhghbikmipgaadoor", sum := "05a96f0ca534b5b77af581f351c705a3a19182b5acbb35c16e45c47bd6599008", func := "loop.example/g01265/laws.FnExactScrollChanges", spec := "fnExactScrollChanges", inPlace := ["internal/bytealg.IndexByteString", "internal/bytealg.IndexString"], named := ["unicode/utf8.first", "unicode/utf8.acceptRanges", "internal/bytealg.MaxLen"], apart := false, laid := [("unicode/utf8.acceptRanges", laid_unicode_utf8_acceptRanges), ("unicode/utf8.first", laid_unicode_utf8_first)], narrowed := true }
def FnExactScrollChangesUptoSaid : Prop := fnExactScrollChangesUptoRow.holds Tryd.pinned (OpenSpec.upto fnExactScrollChangesSpec)

end Rows
end Go.Proofs.YtjlhghbikmipgaaDoor
