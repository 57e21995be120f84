/-
  No cell of these rows narrows 'for every input' (looked for: loops, veiled, ifaces, maps, wideKeys, modest, calm, conditions, laid).
  DERIVED. THE GIVEN ROWS OF THIS SEAT. 10 by the template 'for every input the law returns true; each argument reads behind the call as it read before'; 0 by the template 'total and deterministic' (their statements: YtfjgleimdaailaaTotals.lean).
  GIVEN WITH THE SEED: the statements are not yours to turn. If you find one false, say at which input.
  Laid BY PROGRAM, IN A SANDBOX (cutbox-rows.mjs): the forced cells as the released guide's own fill.sh prints them over the translation b2e1949595b0ed3d… (all of the seat's roots in one cut). By AI agents, Wed Nov 11 2026. No macro, syntax, notation, axiom, sorry.
-/
import Derived.Test.YtfjgleimdaailaaChecked
import GoSem.Claim
import GoSem.ClaimJoined
import GoSem.ClaimMapViews
import Derived.JoinedTies
import Derived.KernelRfl
namespace Go.Proofs.Ytfjgleimdaailaa
/- THE CELL 'sum', in the pinned program and in every row, IS THE sha256 OF THE DUMP (.gsa) THAT YtfjgleimdaailaaProg.lean LOADS. Nothing in Lean hashes anything: it is a label: what it is worth is what the hold of that sum in a sandbox is worth. -/
noncomputable def Try.pinned : Pinned := { name := "ytfjgleimdaailaa", sum := "b2e1949595b0ed3d256d45f889e456bfb1c7d3489cfb753613c256e54766fee0", checked := Try.checked }
namespace Rows
def none {H : Type} : Left H := { results := [], args := [] }

/-- 'laws.FnExactShownCell': WHATEVER THE INPUT: true; the input reads as it did. -/
def fnExactShownCellSpec : ChangeSpec := { name := "fnExactShownCell", fn := fun _ => fun
  | [d1, d2] => { results := [.lit (.bool true)], args := [d1, d2] }
  | _ => none }
def fnExactShownCellRow : OpenClaim := { program := "ytfjgleimdaailaa", sum := "b2e1949595b0ed3d256d45f889e456bfb1c7d3489cfb753613c256e54766fee0", func := "loop.example/g01265/laws.FnExactShownCell", spec := "fnExactShownCell", apart := false }
def FnExactShownCellSaid : Prop := fnExactShownCellRow.holds Try.pinned (OpenSpec.ofChange fnExactShownCellSpec)

/-- ITS FALSE NEIGHBOUR: 'it returns false'. Refute it at one input. -/
def fnExactShownCellWrong : ChangeSpec := { name := "fnExactShownCell", fn := fun _ => fun
  | [d1, d2] => { results := [.lit (.bool false)], args := [d1, d2] }
  | _ => none }
def FnExactShownCellWrongFalsely : Prop := fnExactShownCellRow.holds Try.pinned (OpenSpec.ofChange fnExactShownCellWrong)

/-- 'laws.FnExactFaultOfState': WHATEVER THE INPUT: true; the input reads as it did. -/
def fnExactFaultOfStateSpec : ChangeSpec := { name := "fnExactFaultOfState", fn := fun _ => fun
  | [d] => { results := [.lit (.bool true)], args := [d] }
  | _ => none }
def fnExactFaultOfStateRow : OpenClaim := { program := "ytfjgleimdaailaa", sum := "b2e1949595b0ed3d256d45f889e456bfb1c7d3489cfb753613c256e54766fee0", func := "loop.example/g01265/laws.FnExactFaultOfState", spec := "fnExactFaultOfState", apart := false }
def FnExactFaultOfStateSaid : Prop := fnExactFaultOfStateRow.holds Try.pinned (OpenSpec.ofChange fnExactFaultOfStateSpec)

/-- ITS FALSE NEIGHBOUR: 'it returns false'. Refute it at one input. -/
def fnExactFaultOfStateWrong : ChangeSpec := { name := "fnExactFaultOfState", fn := fun _ => fun
  | [d] => { results := [.lit (.bool false)], args := [d] }
  | _ => none }
def FnExactFaultOfStateWrongFalsely : Prop := fnExactFaultOfStateRow.holds Try.pinned (OpenSpec.ofChange fnExactFaultOfStateWrong)

/-- 'laws.FnExactIsBench': WHATEVER THE INPUT: true; the input reads as it did. -/
def fnExactIsBenchSpec : ChangeSpec := { name := "fnExactIsBench", fn := fun _ => fun
  | [d] => { results := [.lit (.bool true)], args := [d] }
  | _ => none }
def fnExactIsBenchRow : OpenClaim := { program := "ytfjgleimdaailaa", sum := "b2e1949595b0ed3d256d45f889e456bfb1c7d3489cfb753613c256e54766fee0", func := "loop.example/g01265/laws.FnExactIsBench", spec := "fnExactIsBench", unfollowed := true, recurses := true, apart := false }
def FnExactIsBenchSaid : Prop := fnExactIsBenchRow.holds Try.pinned (OpenSpec.ofChange fnExactIsBenchSpec)

/-- ITS FALSE NEIGHBOUR: 'it returns false'. Refute it at one input. -/
def fnExactIsBenchWrong : ChangeSpec := { name := "fnExactIsBench", fn := fun _ => fun
  | [d] => { results := [.lit (.bool false)], args := [d] }
  | _ => none }
def FnExactIsBenchWrongFalsely : Prop := fnExactIsBenchRow.holds Try.pinned (OpenSpec.ofChange fnExactIsBenchWrong)

/-- 'laws.FnExactNewBench': WHATEVER THE INPUT: true; the input reads as it did. -/
def fnExactNewBenchSpec : ChangeSpec := { name := "fnExactNewBench", fn := fun _ => fun
  | [d] => { results := [.lit (.bool true)], args := [d] }
  | _ => none }
def fnExactNewBenchRow : OpenClaim := { program := "ytfjgleimdaailaa", sum := "b2e1949595b0ed3d256d45f889e456bfb1c7d3489cfb753613c256e54766fee0", func := "loop.example/g01265/laws.FnExactNewBench", spec := "fnExactNewBench", unfollowed := true, recurses := true, apart := false }
def FnExactNewBenchSaid : Prop := fnExactNewBenchRow.holds Try.pinned (OpenSpec.ofChange fnExactNewBenchSpec)

/-- ITS FALSE NEIGHBOUR: 'it returns false'. Refute it at one input. -/
def fnExactNewBenchWrong : ChangeSpec := { name := "fnExactNewBench", fn := fun _ => fun
  | [d] => { results := [.lit (.bool false)], args := [d] }
  | _ => none }
def FnExactNewBenchWrongFalsely : Prop := fnExactNewBenchRow.holds Try.pinned (OpenSpec.ofChange fnExactNewBenchWrong)

/-- 'laws.FnExactCountImages': WHATEVER THE INPUT: true; the input reads as it did. -/
def fnExactCountImagesSpec : ChangeSpec := { name := "fnExactCountImages", fn := fun _ => fun
  | [d] => { results := [.lit (.bool true)], args := [d] }
  | _ => none }
def fnExactCountImagesRow : OpenClaim := { program := "ytfjgleimdaailaa", sum := "b2e1949595b0ed3d256d45f889e456bfb1c7d3489cfb753613c256e54766fee0", func := "loop.example/g01265/laws.FnExactCountImages", spec := "fnExactCountImages", apart := false }
def FnExactCountImagesSaid : Prop := fnExactCountImagesRow.holds Try.pinned (OpenSpec.ofChange fnExactCountImagesSpec)

/-- ITS FALSE NEIGHBOUR: 'it returns false'. Refute it at one input. -/
def fnExactCountImagesWrong : ChangeSpec := { name := "fnExactCountImages", fn := fun _ => fun
  | [d] => { results := [.lit (.bool false)], args := [d] }
  | _ => none }
def FnExactCountImagesWrongFalsely : Prop := fnExactCountImagesRow.holds Try.pinned (OpenSpec.ofChange fnExactCountImagesWrong)

/-- 'laws.FnExactIsHarmless': WHATEVER THE INPUT: true; the input reads as it did. -/
def fnExactIsHarmlessSpec : ChangeSpec := { name := "fnExactIsHarmless", fn := fun _ => fun
  | [d] => { results := [.lit (.bool true)], args := [d] }
  | _ => none }
def fnExactIsHarmlessRow : OpenClaim := { program := "ytfjgleimdaailaa", sum := "b2e1949595b0ed3d256d45f889e456bfb1c7d3489cfb753613c256e54766fee0", func := "loop.example/g01265/laws.FnExactIsHarmless", spec := "fnExactIsHarmless", apart := false }
def FnExactIsHarmlessSaid : Prop := fnExactIsHarmlessRow.holds Try.pinned (OpenSpec.ofChange fnExactIsHarmlessSpec)

/-- ITS FALSE NEIGHBOUR: 'it returns false'. Refute it at one input. -/
def fnExactIsHarmlessWrong : ChangeSpec := { name := "fnExactIsHarmless", fn := fun _ => fun
  | [d] => { results := [.lit (.bool false)], args := [d] }
  | _ => none }
def FnExactIsHarmlessWrongFalsely : Prop := fnExactIsHarmlessRow.holds Try.pinned (OpenSpec.ofChange fnExactIsHarmlessWrong)

/-- 'laws.FnExactDigitsShown': WHATEVER THE INPUT: true; the input reads as it did. -/
def fnExactDigitsShownSpec : ChangeSpec := { name := "fnExactDigitsShown", fn := fun _ => fun
  | [d1, d2] => { results := [.lit (.bool true)], args := [d1, d2] }
  | _ => none }
def fnExactDigitsShownRow : OpenClaim := { program := "ytfjgleimdaailaa", sum := "b2e1949595b0ed3d256d45f889e456bfb1c7d3489cfb753613c256e54766fee0", func := "loop.example/g01265/laws.FnExactDigitsShown", spec := "fnExactDigitsShown", apart := false }
def FnExactDigitsShownSaid : Prop := fnExactDigitsShownRow.holds Try.pinned (OpenSpec.ofChange fnExactDigitsShownSpec)

/-- ITS FALSE NEIGHBOUR: 'it returns false'. Refute it at one input. -/
def fnExactDigitsShownWrong : ChangeSpec := { name := "fnExactDigitsShown", fn := fun _ => fun
  | [d1, d2] => { results := [.lit (.bool false)], args := [d1, d2] }
  | _ => none }
def FnExactDigitsShownWrongFalsely : Prop := fnExactDigitsShownRow.holds Try.pinned (OpenSpec.ofChange fnExactDigitsShownWrong)

/-- 'laws.FnExactToldDigits': WHATEVER THE INPUT: true; the input reads as it did. -/
def fnExactToldDigitsSpec : ChangeSpec := { name := "fnExactToldDigits", fn := fun _ => fun
  | [d] => { results := [.lit (.bool true)], args := [d] }
  | _ => none }
def fnExactToldDigitsRow : OpenClaim := { program := "ytfjgleimdaailaa", sum := "b2e1949595b0ed3d256d45f889e456bfb1c7d3489cfb753613c256e54766fee0", func := "loop.example/g01265/laws.FnExactToldDigits", spec := "fnExactToldDigits", apart := false }
def FnExactToldDigitsSaid : Prop := fnExactToldDigitsRow.holds Try.pinned (OpenSpec.ofChange fnExactToldDigitsSpec)

/-- ITS FALSE NEIGHBOUR: 'it returns false'. Refute it at one input. -/
def fnExactToldDigitsWrong : ChangeSpec := { name := "fnExactToldDigits", fn := fun _ => fun
  | [d] => { results := [.lit (.bool false)], args := [d] }
  | _ => none }
def FnExactToldDigitsWrongFalsely : Prop := fnExactToldDigitsRow.holds Try.pinned (OpenSpec.ofChange fnExactToldDigitsWrong)

/-- 'laws.FnExactChanceSameDigit': WHATEVER THE INPUT: true; the input reads as it did. -/
def fnExactChanceSameDigitSpec : ChangeSpec := { name := "fnExactChanceSameDigit", fn := fun _ => fun
  | [d] => { results := [.lit (.bool true)], args := [d] }
  | _ => none }
def fnExactChanceSameDigitRow : OpenClaim := { program := "ytfjgleimdaailaa", sum := "b2e1949595b0ed3d256d45f889e456bfb1c7d3489cfb753613c256e54766fee0", func := "loop.example/g01265/laws.FnExactChanceSameDigit", spec := "fnExactChanceSameDigit", apart := false }
def FnExactChanceSameDigitSaid : Prop := fnExactChanceSameDigitRow.holds Try.pinned (OpenSpec.ofChange fnExactChanceSameDigitSpec)

/-- ITS FALSE NEIGHBOUR: 'it returns false'. Refute it at one input. -/
def fnExactChanceSameDigitWrong : ChangeSpec := { name := "fnExactChanceSameDigit", fn := fun _ => fun
  | [d] => { results := [.lit (.bool false)], args := [d] }
  | _ => none }
def FnExactChanceSameDigitWrongFalsely : Prop := fnExactChanceSameDigitRow.holds Try.pinned (OpenSpec.ofChange fnExactChanceSameDigitWrong)

/-- 'laws.FnExactMeanChanges': WHATEVER THE INPUT: true; the input reads as it did. -/
def fnExactMeanChangesSpec : ChangeSpec := { name := "fnExactMeanChanges", fn := fun _ => fun
  | [] => { results := [.lit (.bool true)], args := [] }
  | _ => none }
def fnExactMeanChangesRow : OpenClaim := { program := "ytfjgleimdaailaa", sum := "b2e1949595b0ed3d256d45f889e456bfb1c7d3489cfb753613c256e54766fee0", func := "loop.example/g01265/laws.FnExactMeanChanges", spec := "fnExactMeanChanges", apart := false }
def FnExactMeanChangesSaid : Prop := fnExactMeanChangesRow.holds Try.pinned (OpenSpec.ofChange fnExactMeanChangesSpec)

/-- ITS FALSE NEIGHBOUR: 'it returns false'. Refute it at one input. -/
def fnExactMeanChangesWrong : ChangeSpec := { name := "fnExactMeanChanges", fn := fun _ => fun
  | [] => { results := [.lit (.bool false)], args := [] }
  | _ => none }
def FnExactMeanChangesWrongFalsely : Prop := fnExactMeanChangesRow.holds Try.pinned (OpenSpec.ofChange fnExactMeanChangesWrong)

/- THE SECOND FORM. 'bulk': how many values and letters a reading holds, each counted each time it is reached (what is shared counts as often as it is met; a slice's spare places count too). A statement '..UptoSaid' is the law's where the arguments, and the package variables that the reading takes, are together of bulk at most 1048576: NARROWER than '..Said'. Prove '..Said' where nothing that the law and all that it calls make is longer than what came in: it says more and counts as full. Else prove '..UptoSaid'. A law counts once. -/
mutual
def uptoBulk {H : Type} : DataW H → Nat
  | .lit (.string bytes) => bytes.length + 1
  | .lit _ => 1
  | .nil => 1
  | .ptr d => uptoBulk d + 1
  | .slice elems spare => uptoBulkAll elems + uptoBulkAll spare + 1
  | .agg parts => uptoBulkAll parts + 1
  | .iface _ d => uptoBulk d + 1
  | .map entries => uptoBulkEntries entries + 1
  | .held _ => 1
def uptoBulkAll {H : Type} : List (DataW H) → Nat
  | [] => 0
  | d :: r => uptoBulk d + uptoBulkAll r
def uptoBulkEntries {H : Type} : List (Lit × DataW H) → Nat
  | [] => 0
  | x :: r => uptoBulkEntry x + uptoBulkEntries r
def uptoBulkEntry {H : Type} : Lit × DataW H → Nat
  | (.string bytes, d) => bytes.length + uptoBulk d + 1
  | (_, d) => uptoBulk d + 1
 end
def uptoSmall : (H : Type) → List (DataW H) → Bool := fun _ ds => decide (uptoBulkAll ds ≤ 1048576)
def OpenSpec.upto (s : _root_.Go.ChangeSpec) : _root_.Go.OpenSpec := { _root_.Go.OpenSpec.ofChange s with cond := some uptoSmall }

/-- 'laws.FnExactShownCell', WHERE WHAT IT READS IS OF BULK AT MOST 1048576: true; the input reads as it did. -/
def fnExactShownCellUptoRow : OpenClaim := { program := "ytfjgleimdaailaa", sum := "b2e1949595b0ed3d256d45f889e456bfb1c7d3489cfb753613c256e54766fee0", func := "loop.example/g01265/laws.FnExactShownCell", spec := "fnExactShownCell", apart := false, narrowed := true }
def FnExactShownCellUptoSaid : Prop := fnExactShownCellUptoRow.holds Try.pinned (OpenSpec.upto fnExactShownCellSpec)

/-- 'laws.FnExactFaultOfState', WHERE WHAT IT READS IS OF BULK AT MOST 1048576: true; the input reads as it did. -/
def fnExactFaultOfStateUptoRow : OpenClaim := { program := "ytfjgleimdaailaa", sum := "b2e1949595b0ed3d256d45f889e456bfb1c7d3489cfb753613c256e54766fee0", func := "loop.example/g01265/laws.FnExactFaultOfState", spec := "fnExactFaultOfState", apart := false, narrowed := true }
def FnExactFaultOfStateUptoSaid : Prop := fnExactFaultOfStateUptoRow.holds Try.pinned (OpenSpec.upto fnExactFaultOfStateSpec)

/-- 'laws.FnExactIsBench', WHERE WHAT IT READS IS OF BULK AT MOST 1048576: true; the input reads as it did. -/
def fnExactIsBenchUptoRow : OpenClaim := { program := "ytfjgleimdaailaa", sum := "b2e1949595b0ed3d256d45f889e456bfb1c7d3489cfb753613c256e54766fee0", func := "loop.example/g01265/laws.FnExactIsBench", spec := "fnExactIsBench", unfollowed := true, recurses := true, apart := false, narrowed := true }
def FnExactIsBenchUptoSaid : Prop := fnExactIsBenchUptoRow.holds Try.pinned (OpenSpec.upto fnExactIsBenchSpec)

/-- 'laws.FnExactNewBench', WHERE WHAT IT READS IS OF BULK AT MOST 1048576: true; the input reads as it did. -/
def fnExactNewBenchUptoRow : OpenClaim := { program := "ytfjgleimdaailaa", sum := "b2e1949595b0ed3d256d45f889e456bfb1c7d3489cfb753613c256e54766fee0", func := "loop.example/g01265/laws.FnExactNewBench", spec := "fnExactNewBench", unfollowed := true, recurses := true, apart := false, narrowed := true }
def FnExactNewBenchUptoSaid : Prop := fnExactNewBenchUptoRow.holds Try.pinned (OpenSpec.upto fnExactNewBenchSpec)

/-- 'laws.FnExactCountImages', WHERE WHAT IT READS IS OF BULK AT MOST 1048576: true; the input reads as it did. -/
def fnExactCountImagesUptoRow : OpenClaim := { program := "ytfjgleimdaailaa", sum := "b2e1949595b0ed3d256d45f889e456bfb1c7d3489cfb753613c256e54766fee0", func := "loop.example/g01265/laws.FnExactCountImages", spec := "fnExactCountImages", apart := false, narrowed := true }
def FnExactCountImagesUptoSaid : Prop := fnExactCountImagesUptoRow.holds Try.pinned (OpenSpec.upto fnExactCountImagesSpec)

/-- 'laws.FnExactIsHarmless', WHERE WHAT IT READS IS OF BULK AT MOST 1048576: true; the input reads as it did. -/
def fnExactIsHarmlessUptoRow : OpenClaim := { program := "ytfjgleimdaailaa", sum := "b2e1949595b0ed3d256d45f889e456bfb1c7d3489cfb753613c256e54766fee0", func := "loop.example/g01265/laws.FnExactIsHarmless", spec := "fnExactIsHarmless", apart := false, narrowed := true }
def FnExactIsHarmlessUptoSaid : Prop := fnExactIsHarmlessUptoRow.holds Try.pinned (OpenSpec.upto fnExactIsHarmlessSpec)

/-- 'laws.FnExactDigitsShown', WHERE WHAT IT READS IS OF BULK AT MOST 1048576: true; the input reads as it did. -/
def fnExactDigitsShownUptoRow : OpenClaim := { program := "ytfjgleimdaailaa", sum := "b2e1949595b0ed3d256d45f889e456bfb1c7d3489cfb753613c256e54766fee0", func := "loop.example/g01265/laws.FnExactDigitsShown", spec := "fnExactDigitsShown", apart := false, narrowed := true }
def FnExactDigitsShownUptoSaid : Prop := fnExactDigitsShownUptoRow.holds Try.pinned (OpenSpec.upto fnExactDigitsShownSpec)

/-- 'laws.FnExactToldDigits', WHERE WHAT IT READS IS OF BULK AT MOST 1048576: true; the input reads as it did. -/
def fnExactToldDigitsUptoRow : OpenClaim := { program := "ytfjgleimdaailaa", sum := "b2e1949595b0ed3d256d45f889e456bfb1c7d3489cfb753613c256e54766fee0", func := "loop.example/g01265/laws.FnExactToldDigits", spec := "fnExactToldDigits", apart := false, narrowed := true }
def FnExactToldDigitsUptoSaid : Prop := fnExactToldDigitsUptoRow.holds Try.pinned (OpenSpec.upto fnExactToldDigitsSpec)

/-- 'laws.FnExactChanceSameDigit', WHERE WHAT IT READS IS OF BULK AT MOST 1048576: true; the input reads as it did. -/
def fnExactChanceSameDigitUptoRow : OpenClaim := { program := "ytfjgleimdaailaa", sum := "b2e1949595b0ed3d256d45f889e456bfb1c7d3489cfb753613c256e54766fee0", func := "loop.example/g01265/laws.FnExactChanceSameDigit", spec := "fnExactChanceSameDigit", apart := false, narrowed := true }
def FnExactChanceSameDigitUptoSaid : Prop := fnExactChanceSameDigitUptoRow.holds Try.pinned (OpenSpec.upto fnExactChanceSameDigitSpec)

/-- 'laws.FnExactMeanChanges', WHERE WHAT IT READS IS OF BULK AT MOST 1048576: true; the input reads as it did. -/
def fnExactMeanChangesUptoRow : OpenClaim := { program := "ytfjgleimdaailaa", sum := "b2e1949595b0ed3d256d45f889e456bfb1c7d3489cfb753613c256e54766fee0", func := "loop.example/g01265/laws.FnExactMeanChanges", spec := "fnExactMeanChanges", apart := false, narrowed := true }
def FnExactMeanChangesUptoSaid : Prop := fnExactMeanChangesUptoRow.holds Try.pinned (OpenSpec.upto fnExactMeanChangesSpec)

end Rows
end Go.Proofs.Ytfjgleimdaailaa
