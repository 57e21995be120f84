/-
  No cell of these rows narrows 'for every input' (looked for: loops, veiled, ifaces, maps, wideKeys, modest, calm, conditions, laid).
  DERIVED. THE GIVEN ROWS OF THIS SEAT. 5 by the template 'for every input the law returns true; each argument reads behind the call as it read before'; 0 by the template 'total and deterministic' (their statements: YtjlhghbikmipgaaTotals.lean).
  GIVEN WITH THE SEED: the statements are not yours to turn. If you find one false, say at which input.
  Laid BY PROGRAM, IN A SANDBOX (cutbox-rows.mjs): the forced cells as the released guide's own fill.sh prints them over the translation 7ceac7ff2551d779… (all of the seat's roots in one cut). By AI agents, Wed Nov 11 2026. No macro, syntax, notation, axiom, sorry.
-/
import Derived.Test.YtjlhghbikmipgaaChecked
import GoSem.Claim
import GoSem.ClaimJoined
import GoSem.ClaimMapViews
import Derived.JoinedTies
import Derived.KernelRfl
namespace Go.Proofs.Ytjlhghbikmipgaa
/- THE CELL 'sum', in the pinned program and in every row, IS THE sha256 OF THE DUMP (.gsa) THAT YtjlhghbikmipgaaProg.lean LOADS. Nothing in Lean hashes anything: it is a label: what it is worth is what the hold of that sum in a sandbox is worth. -/
noncomputable def Try.pinned : Pinned := { name := "ytjlhghbikmipgaa", sum := "7ceac7ff2551d779dfd431b704905bbadf1bc65ca493dbbb1edda73c1b6a5b30", checked := Try.checked }
namespace Rows
def none {H : Type} : Left H := { results := [], args := [] }

/-- 'laws.FnExactLetterOf': WHATEVER THE INPUT: true; the input reads as it did. -/
def fnExactLetterOfSpec : ChangeSpec := { name := "fnExactLetterOf", fn := fun _ => fun
  | [d] => { results := [.lit (.bool true)], args := [d] }
  | _ => none }
def fnExactLetterOfRow : OpenClaim := { program := "ytjlhghbikmipgaa", sum := "7ceac7ff2551d779dfd431b704905bbadf1bc65ca493dbbb1edda73c1b6a5b30", func := "loop.example/g01265/laws.FnExactLetterOf", spec := "fnExactLetterOf", inPlace := ["internal/bytealg.IndexByteString", "internal/bytealg.IndexString"], named := ["internal/bytealg.MaxLen"], apart := false }
def FnExactLetterOfSaid : Prop := fnExactLetterOfRow.holds Try.pinned (OpenSpec.ofChange fnExactLetterOfSpec)

/-- ITS FALSE NEIGHBOUR: 'it returns false'. Refute it at one input. -/
def fnExactLetterOfWrong : ChangeSpec := { name := "fnExactLetterOf", fn := fun _ => fun
  | [d] => { results := [.lit (.bool false)], args := [d] }
  | _ => none }
def FnExactLetterOfWrongFalsely : Prop := fnExactLetterOfRow.holds Try.pinned (OpenSpec.ofChange fnExactLetterOfWrong)

/-- 'laws.FnExactCountReadings': WHATEVER THE INPUT: true; the input reads as it did. -/
def fnExactCountReadingsSpec : ChangeSpec := { name := "fnExactCountReadings", fn := fun _ => fun
  | [d] => { results := [.lit (.bool true)], args := [d] }
  | _ => none }
def fnExactCountReadingsRow : OpenClaim := { program := "ytjlhghbikmipgaa", sum := "7ceac7ff2551d779dfd431b704905bbadf1bc65ca493dbbb1edda73c1b6a5b30", func := "loop.example/g01265/laws.FnExactCountReadings", spec := "fnExactCountReadings", inPlace := ["internal/bytealg.IndexByteString", "internal/bytealg.IndexString"], unfollowed := true, recurses := true, named := ["internal/bytealg.MaxLen"], apart := false }
def FnExactCountReadingsSaid : Prop := fnExactCountReadingsRow.holds Try.pinned (OpenSpec.ofChange fnExactCountReadingsSpec)

/-- ITS FALSE NEIGHBOUR: 'it returns false'. Refute it at one input. -/
def fnExactCountReadingsWrong : ChangeSpec := { name := "fnExactCountReadings", fn := fun _ => fun
  | [d] => { results := [.lit (.bool false)], args := [d] }
  | _ => none }
def FnExactCountReadingsWrongFalsely : Prop := fnExactCountReadingsRow.holds Try.pinned (OpenSpec.ofChange fnExactCountReadingsWrong)

/-- 'laws.FnExactWordOfRow': WHATEVER THE INPUT: true; the input reads as it did. -/
def fnExactWordOfRowSpec : ChangeSpec := { name := "fnExactWordOfRow", fn := fun _ => fun
  | [d] => { results := [.lit (.bool true)], args := [d] }
  | _ => none }
def fnExactWordOfRowRow : OpenClaim := { program := "ytjlhghbikmipgaa", sum := "7ceac7ff2551d779dfd431b704905bbadf1bc65ca493dbbb1edda73c1b6a5b30", func := "loop.example/g01265/laws.FnExactWordOfRow", spec := "fnExactWordOfRow", inPlace := ["internal/bytealg.IndexByteString", "internal/bytealg.IndexString"], unfollowed := true, recurses := true, named := ["internal/bytealg.MaxLen"], apart := false }
def FnExactWordOfRowSaid : Prop := fnExactWordOfRowRow.holds Try.pinned (OpenSpec.ofChange fnExactWordOfRowSpec)

/-- ITS FALSE NEIGHBOUR: 'it returns false'. Refute it at one input. -/
def fnExactWordOfRowWrong : ChangeSpec := { name := "fnExactWordOfRow", fn := fun _ => fun
  | [d] => { results := [.lit (.bool false)], args := [d] }
  | _ => none }
def FnExactWordOfRowWrongFalsely : Prop := fnExactWordOfRowRow.holds Try.pinned (OpenSpec.ofChange fnExactWordOfRowWrong)

/-- 'laws.FnExactReadingAt': WHATEVER THE INPUT: true; the input reads as it did. -/
def fnExactReadingAtSpec : ChangeSpec := { name := "fnExactReadingAt", fn := fun _ => fun
  | [d1, d2] => { results := [.lit (.bool true)], args := [d1, d2] }
  | _ => none }
def fnExactReadingAtRow : OpenClaim := { program := "ytjlhghbikmipgaa", sum := "7ceac7ff2551d779dfd431b704905bbadf1bc65ca493dbbb1edda73c1b6a5b30", func := "loop.example/g01265/laws.FnExactReadingAt", spec := "fnExactReadingAt", inPlace := ["internal/bytealg.IndexByteString", "internal/bytealg.IndexString"], unfollowed := true, recurses := true, named := ["internal/bytealg.MaxLen"], apart := false }
def FnExactReadingAtSaid : Prop := fnExactReadingAtRow.holds Try.pinned (OpenSpec.ofChange fnExactReadingAtSpec)

/-- ITS FALSE NEIGHBOUR: 'it returns false'. Refute it at one input. -/
def fnExactReadingAtWrong : ChangeSpec := { name := "fnExactReadingAt", fn := fun _ => fun
  | [d1, d2] => { results := [.lit (.bool false)], args := [d1, d2] }
  | _ => none }
def FnExactReadingAtWrongFalsely : Prop := fnExactReadingAtRow.holds Try.pinned (OpenSpec.ofChange fnExactReadingAtWrong)

/-- 'laws.FnExactLeastFarLetters': WHATEVER THE INPUT: true; the input reads as it did. -/
def fnExactLeastFarLettersSpec : ChangeSpec := { name := "fnExactLeastFarLetters", fn := fun _ => fun
  | [] => { results := [.lit (.bool true)], args := [] }
  | _ => none }
def fnExactLeastFarLettersRow : OpenClaim := { program := "ytjlhghbikmipgaa", sum := "7ceac7ff2551d779dfd431b704905bbadf1bc65ca493dbbb1edda73c1b6a5b30", func := "loop.example/g01265/laws.FnExactLeastFarLetters", spec := "fnExactLeastFarLetters", inPlace := ["internal/bytealg.IndexByteString", "internal/bytealg.IndexString"], unfollowed := true, recurses := true, named := ["internal/bytealg.MaxLen"], apart := false }
def FnExactLeastFarLettersSaid : Prop := fnExactLeastFarLettersRow.holds Try.pinned (OpenSpec.ofChange fnExactLeastFarLettersSpec)

/-- ITS FALSE NEIGHBOUR: 'it returns false'. Refute it at one input. -/
def fnExactLeastFarLettersWrong : ChangeSpec := { name := "fnExactLeastFarLetters", fn := fun _ => fun
  | [] => { results := [.lit (.bool false)], args := [] }
  | _ => none }
def FnExactLeastFarLettersWrongFalsely : Prop := fnExactLeastFarLettersRow.holds Try.pinned (OpenSpec.ofChange fnExactLeastFarLettersWrong)

/- THE SECOND FORM. 'bulk': how many values and letters a reading holds, each counted each time it is reached (what is shared counts as often as it is met; a slice's spare places count too). A statement '..UptoSaid' is the law's where the arguments, and the package variables that the reading takes, are together of bulk at most 1048576: NARROWER than '..Said'. Prove '..Said' where nothing that the law and all that it calls make is longer than what came in: it says more and counts as full. Else prove '..UptoSaid'. A law counts once. -/
mutual
def uptoBulk {H : Type} : DataW H → Nat
  | .lit (.string bytes) => bytes.length + 1
  | .lit _ => 1
  | .nil => 1
  | .ptr d => uptoBulk d + 1
  | .slice elems spare => uptoBulkAll elems + uptoBulkAll spare + 1
  | .agg parts => uptoBulkAll parts + 1
  | .iface _ d => uptoBulk d + 1
  | .map entries => uptoBulkEntries entries + 1
  | .held _ => 1
def uptoBulkAll {H : Type} : List (DataW H) → Nat
  | [] => 0
  | d :: r => uptoBulk d + uptoBulkAll r
def uptoBulkEntries {H : Type} : List (Lit × DataW H) → Nat
  | [] => 0
  | x :: r => uptoBulkEntry x + uptoBulkEntries r
def uptoBulkEntry {H : Type} : Lit × DataW H → Nat
  | (.string bytes, d) => bytes.length + uptoBulk d + 1
  | (_, d) => uptoBulk d + 1
 end
def uptoSmall : (H : Type) → List (DataW H) → Bool := fun _ ds => decide (uptoBulkAll ds ≤ 1048576)
def OpenSpec.upto (s : _root_.Go.ChangeSpec) : _root_.Go.OpenSpec := { _root_.Go.OpenSpec.ofChange s with cond := some uptoSmall }

/-- 'laws.FnExactLetterOf', WHERE WHAT IT READS IS OF BULK AT MOST 1048576: true; the input reads as it did. -/
def fnExactLetterOfUptoRow : OpenClaim := { program := "ytjlhghbikmipgaa", sum := "7ceac7ff2551d779dfd431b704905bbadf1bc65ca493dbbb1edda73c1b6a5b30", func := "loop.example/g01265/laws.FnExactLetterOf", spec := "fnExactLetterOf", inPlace := ["internal/bytealg.IndexByteString", "internal/bytealg.IndexString"], named := ["internal/bytealg.MaxLen"], apart := false, narrowed := true }
def FnExactLetterOfUptoSaid : Prop := fnExactLetterOfUptoRow.holds Try.pinned (OpenSpec.upto fnExactLetterOfSpec)

/-- 'laws.FnExactCountReadings', WHERE WHAT IT READS IS OF BULK AT MOST 1048576: true; the input reads as it did. -/
def fnExactCountReadingsUptoRow : OpenClaim := { program := "ytjlhghbikmipgaa", sum := "7ceac7ff2551d779dfd431b704905bbadf1bc65ca493dbbb1edda73c1b6a5b30", func := "loop.example/g01265/laws.FnExactCountReadings", spec := "fnExactCountReadings", inPlace := ["internal/bytealg.IndexByteString", "internal/bytealg.IndexString"], unfollowed := true, recurses := true, named := ["internal/bytealg.MaxLen"], apart := false, narrowed := true }
def FnExactCountReadingsUptoSaid : Prop := fnExactCountReadingsUptoRow.holds Try.pinned (OpenSpec.upto fnExactCountReadingsSpec)

/-- 'laws.FnExactWordOfRow', WHERE WHAT IT READS IS OF BULK AT MOST 1048576: true; the input reads as it did. -/
def fnExactWordOfRowUptoRow : OpenClaim := { program := "ytjlhghbikmipgaa", sum := "7ceac7ff2551d779dfd431b704905bbadf1bc65ca493dbbb1edda73c1b6a5b30", func := "loop.example/g01265/laws.FnExactWordOfRow", spec := "fnExactWordOfRow", inPlace := ["internal/bytealg.IndexByteString", "internal/bytealg.IndexString"], unfollowed := true, recurses := true, named := ["internal/bytealg.MaxLen"], apart := false, narrowed := true }
def FnExactWordOfRowUptoSaid : Prop := fnExactWordOfRowUptoRow.holds Try.pinned (OpenSpec.upto fnExactWordOfRowSpec)

/-- 'laws.FnExactReadingAt', WHERE WHAT IT READS IS OF BULK AT MOST 1048576: true; the input reads as it did. -/
def fnExactReadingAtUptoRow : OpenClaim := { program := "ytjlhghbikmipgaa", sum := "7ceac7ff2551d779dfd431b704905bbadf1bc65ca493dbbb1edda73c1b6a5b30", func := "loop.example/g01265/laws.FnExactReadingAt", spec := "fnExactReadingAt", inPlace := ["internal/bytealg.IndexByteString", "internal/bytealg.IndexString"], unfollowed := true, recurses := true, named := ["internal/bytealg.MaxLen"], apart := false, narrowed := true }
def FnExactReadingAtUptoSaid : Prop := fnExactReadingAtUptoRow.holds Try.pinned (OpenSpec.upto fnExactReadingAtSpec)

/-- 'laws.FnExactLeastFarLetters', WHERE WHAT IT READS IS OF BULK AT MOST 1048576: true; the input reads as it did. -/
def fnExactLeastFarLettersUptoRow : OpenClaim := { program := "ytjlhghbikmipgaa", sum := "7ceac7ff2551d779dfd431b704905bbadf1bc65ca493dbbb1edda73c1b6a5b30", func := "loop.example/g01265/laws.FnExactLeastFarLetters", spec := "fnExactLeastFarLetters", inPlace := ["internal/bytealg.IndexByteString", "internal/bytealg.IndexString"], unfollowed := true, recurses := true, named := ["internal/bytealg.MaxLen"], apart := false, narrowed := true }
def FnExactLeastFarLettersUptoSaid : Prop := fnExactLeastFarLettersUptoRow.holds Try.pinned (OpenSpec.upto fnExactLeastFarLettersSpec)

end Rows
end Go.Proofs.Ytjlhghbikmipgaa
