/-
  No cell of these rows narrows 'for every input' (looked for: loops, veiled, ifaces, maps, wideKeys, modest, calm, conditions, laid).
  DERIVED. THE GIVEN ROWS OF THIS SEAT. 5 by the template 'for every input the law returns true; each argument reads behind the call as it read before'; 0 by the template 'total and deterministic' (their statements: YteidpiebjjekbaaTotals.lean).
  GIVEN WITH THE SEED: the statements are not yours to turn. If you find one false, say at which input.
  Laid BY PROGRAM, IN A SANDBOX (cutbox-rows.mjs): the forced cells as the released guide's own fill.sh prints them over the translation 8f84b442725c9eae… (all of the seat's roots in one cut). By AI agents, Wed Nov 11 2026. No macro, syntax, notation, axiom, sorry.
-/
import Derived.Test.YteidpiebjjekbaaChecked
import GoSem.Claim
import GoSem.ClaimJoined
import GoSem.ClaimMapViews
import Derived.JoinedTies
import Derived.KernelRfl
namespace Go.Proofs.Yteidpiebjjekbaa
/- THE CELL 'sum', in the pinned program and in every row, IS THE sha256 OF THE DUMP (.gsa) THAT YteidpiebjjekbaaProg.lean LOADS. Nothing in Lean hashes anything: it is a label: what it is worth is what the hold of that sum in a sandbox is worth. -/
noncomputable def Try.pinned : Pinned := { name := "yteidpiebjjekbaa", sum := "8f84b442725c9eae80da7907be194b0cb8b9eda6449572b9afcb57372d6d42f2", checked := Try.checked }
namespace Rows
def none {H : Type} : Left H := { results := [], args := [] }

/-- 'laws.FnExactChanceFlicker': WHATEVER THE INPUT: true; the input reads as it did. -/
def fnExactChanceFlickerSpec : ChangeSpec := { name := "fnExactChanceFlicker", fn := fun _ => fun
  | [d1, d2, d3, d4] => { results := [.lit (.bool true)], args := [d1, d2, d3, d4] }
  | _ => none }
def fnExactChanceFlickerRow : OpenClaim := { program := "yteidpiebjjekbaa", sum := "8f84b442725c9eae80da7907be194b0cb8b9eda6449572b9afcb57372d6d42f2", func := "loop.example/g01265/laws.FnExactChanceFlicker", spec := "fnExactChanceFlicker", apart := false }
def FnExactChanceFlickerSaid : Prop := fnExactChanceFlickerRow.holds Try.pinned (OpenSpec.ofChange fnExactChanceFlickerSpec)

/-- ITS FALSE NEIGHBOUR: 'it returns false'. Refute it at one input. -/
def fnExactChanceFlickerWrong : ChangeSpec := { name := "fnExactChanceFlicker", fn := fun _ => fun
  | [d1, d2, d3, d4] => { results := [.lit (.bool false)], args := [d1, d2, d3, d4] }
  | _ => none }
def FnExactChanceFlickerWrongFalsely : Prop := fnExactChanceFlickerRow.holds Try.pinned (OpenSpec.ofChange fnExactChanceFlickerWrong)

/-- 'laws.FnExactChanceReadAs': WHATEVER THE INPUT: true; the input reads as it did. -/
def fnExactChanceReadAsSpec : ChangeSpec := { name := "fnExactChanceReadAs", fn := fun _ => fun
  | [d1, d2, d3, d4] => { results := [.lit (.bool true)], args := [d1, d2, d3, d4] }
  | _ => none }
def fnExactChanceReadAsRow : OpenClaim := { program := "yteidpiebjjekbaa", sum := "8f84b442725c9eae80da7907be194b0cb8b9eda6449572b9afcb57372d6d42f2", func := "loop.example/g01265/laws.FnExactChanceReadAs", spec := "fnExactChanceReadAs", apart := false }
def FnExactChanceReadAsSaid : Prop := fnExactChanceReadAsRow.holds Try.pinned (OpenSpec.ofChange fnExactChanceReadAsSpec)

/-- ITS FALSE NEIGHBOUR: 'it returns false'. Refute it at one input. -/
def fnExactChanceReadAsWrong : ChangeSpec := { name := "fnExactChanceReadAs", fn := fun _ => fun
  | [d1, d2, d3, d4] => { results := [.lit (.bool false)], args := [d1, d2, d3, d4] }
  | _ => none }
def FnExactChanceReadAsWrongFalsely : Prop := fnExactChanceReadAsRow.holds Try.pinned (OpenSpec.ofChange fnExactChanceReadAsWrong)

/-- 'laws.FnExactChanceNoDigit': WHATEVER THE INPUT: true; the input reads as it did. -/
def fnExactChanceNoDigitSpec : ChangeSpec := { name := "fnExactChanceNoDigit", fn := fun _ => fun
  | [d1, d2, d3] => { results := [.lit (.bool true)], args := [d1, d2, d3] }
  | _ => none }
def fnExactChanceNoDigitRow : OpenClaim := { program := "yteidpiebjjekbaa", sum := "8f84b442725c9eae80da7907be194b0cb8b9eda6449572b9afcb57372d6d42f2", func := "loop.example/g01265/laws.FnExactChanceNoDigit", spec := "fnExactChanceNoDigit", apart := false }
def FnExactChanceNoDigitSaid : Prop := fnExactChanceNoDigitRow.holds Try.pinned (OpenSpec.ofChange fnExactChanceNoDigitSpec)

/-- ITS FALSE NEIGHBOUR: 'it returns false'. Refute it at one input. -/
def fnExactChanceNoDigitWrong : ChangeSpec := { name := "fnExactChanceNoDigit", fn := fun _ => fun
  | [d1, d2, d3] => { results := [.lit (.bool false)], args := [d1, d2, d3] }
  | _ => none }
def FnExactChanceNoDigitWrongFalsely : Prop := fnExactChanceNoDigitRow.holds Try.pinned (OpenSpec.ofChange fnExactChanceNoDigitWrong)

/-- 'laws.FnExactChancesFor': WHATEVER THE INPUT: true; the input reads as it did. -/
def fnExactChancesForSpec : ChangeSpec := { name := "fnExactChancesFor", fn := fun _ => fun
  | [d1, d2, d3] => { results := [.lit (.bool true)], args := [d1, d2, d3] }
  | _ => none }
def fnExactChancesForRow : OpenClaim := { program := "yteidpiebjjekbaa", sum := "8f84b442725c9eae80da7907be194b0cb8b9eda6449572b9afcb57372d6d42f2", func := "loop.example/g01265/laws.FnExactChancesFor", spec := "fnExactChancesFor", apart := false }
def FnExactChancesForSaid : Prop := fnExactChancesForRow.holds Try.pinned (OpenSpec.ofChange fnExactChancesForSpec)

/-- ITS FALSE NEIGHBOUR: 'it returns false'. Refute it at one input. -/
def fnExactChancesForWrong : ChangeSpec := { name := "fnExactChancesFor", fn := fun _ => fun
  | [d1, d2, d3] => { results := [.lit (.bool false)], args := [d1, d2, d3] }
  | _ => none }
def FnExactChancesForWrongFalsely : Prop := fnExactChancesForRow.holds Try.pinned (OpenSpec.ofChange fnExactChancesForWrong)

/-- 'laws.FnFlicker': WHATEVER THE INPUT: true; the input reads as it did. -/
def fnFlickerSpec : ChangeSpec := { name := "fnFlicker", fn := fun _ => fun
  | [d] => { results := [.lit (.bool true)], args := [d] }
  | _ => none }
def fnFlickerRow : OpenClaim := { program := "yteidpiebjjekbaa", sum := "8f84b442725c9eae80da7907be194b0cb8b9eda6449572b9afcb57372d6d42f2", func := "loop.example/g01265/laws.FnFlicker", spec := "fnFlicker", apart := false }
def FnFlickerSaid : Prop := fnFlickerRow.holds Try.pinned (OpenSpec.ofChange fnFlickerSpec)

/-- ITS FALSE NEIGHBOUR: 'it returns false'. Refute it at one input. -/
def fnFlickerWrong : ChangeSpec := { name := "fnFlicker", fn := fun _ => fun
  | [d] => { results := [.lit (.bool false)], args := [d] }
  | _ => none }
def FnFlickerWrongFalsely : Prop := fnFlickerRow.holds Try.pinned (OpenSpec.ofChange fnFlickerWrong)

/- THE SECOND FORM. 'bulk': how many values and letters a reading holds, each counted each time it is reached (what is shared counts as often as it is met; a slice's spare places count too). A statement '..UptoSaid' is the law's where the arguments, and the package variables that the reading takes, are together of bulk at most 1048576: NARROWER than '..Said'. Prove '..Said' where nothing that the law and all that it calls make is longer than what came in: it says more and counts as full. Else prove '..UptoSaid'. A law counts once. -/
mutual
def uptoBulk {H : Type} : DataW H → Nat
  | .lit (.string bytes) => bytes.length + 1
  | .lit _ => 1
  | .nil => 1
  | .ptr d => uptoBulk d + 1
  | .slice elems spare => uptoBulkAll elems + uptoBulkAll spare + 1
  | .agg parts => uptoBulkAll parts + 1
  | .iface _ d => uptoBulk d + 1
  | .map entries => uptoBulkEntries entries + 1
  | .held _ => 1
def uptoBulkAll {H : Type} : List (DataW H) → Nat
  | [] => 0
  | d :: r => uptoBulk d + uptoBulkAll r
def uptoBulkEntries {H : Type} : List (Lit × DataW H) → Nat
  | [] => 0
  | x :: r => uptoBulkEntry x + uptoBulkEntries r
def uptoBulkEntry {H : Type} : Lit × DataW H → Nat
  | (.string bytes, d) => bytes.length + uptoBulk d + 1
  | (_, d) => uptoBulk d + 1
 end
def uptoSmall : (H : Type) → List (DataW H) → Bool := fun _ ds => decide (uptoBulkAll ds ≤ 1048576)
def OpenSpec.upto (s : _root_.Go.ChangeSpec) : _root_.Go.OpenSpec := { _root_.Go.OpenSpec.ofChange s with cond := some uptoSmall }

/-- 'laws.FnExactChanceFlicker', WHERE WHAT IT READS IS OF BULK AT MOST 1048576: true; the input reads as it did. -/
def fnExactChanceFlickerUptoRow : OpenClaim := { program := "yteidpiebjjekbaa", sum := "8f84b442725c9eae80da7907be194b0cb8b9eda6449572b9afcb57372d6d42f2", func := "loop.example/g01265/laws.FnExactChanceFlicker", spec := "fnExactChanceFlicker", apart := false, narrowed := true }
def FnExactChanceFlickerUptoSaid : Prop := fnExactChanceFlickerUptoRow.holds Try.pinned (OpenSpec.upto fnExactChanceFlickerSpec)

/-- 'laws.FnExactChanceReadAs', WHERE WHAT IT READS IS OF BULK AT MOST 1048576: true; the input reads as it did. -/
def fnExactChanceReadAsUptoRow : OpenClaim := { program := "yteidpiebjjekbaa", sum := "8f84b442725c9eae80da7907be194b0cb8b9eda6449572b9afcb57372d6d42f2", func := "loop.example/g01265/laws.FnExactChanceReadAs", spec := "fnExactChanceReadAs", apart := false, narrowed := true }
def FnExactChanceReadAsUptoSaid : Prop := fnExactChanceReadAsUptoRow.holds Try.pinned (OpenSpec.upto fnExactChanceReadAsSpec)

/-- 'laws.FnExactChanceNoDigit', WHERE WHAT IT READS IS OF BULK AT MOST 1048576: true; the input reads as it did. -/
def fnExactChanceNoDigitUptoRow : OpenClaim := { program := "yteidpiebjjekbaa", sum := "8f84b442725c9eae80da7907be194b0cb8b9eda6449572b9afcb57372d6d42f2", func := "loop.example/g01265/laws.FnExactChanceNoDigit", spec := "fnExactChanceNoDigit", apart := false, narrowed := true }
def FnExactChanceNoDigitUptoSaid : Prop := fnExactChanceNoDigitUptoRow.holds Try.pinned (OpenSpec.upto fnExactChanceNoDigitSpec)

/-- 'laws.FnExactChancesFor', WHERE WHAT IT READS IS OF BULK AT MOST 1048576: true; the input reads as it did. -/
def fnExactChancesForUptoRow : OpenClaim := { program := "yteidpiebjjekbaa", sum := "8f84b442725c9eae80da7907be194b0cb8b9eda6449572b9afcb57372d6d42f2", func := "loop.example/g01265/laws.FnExactChancesFor", spec := "fnExactChancesFor", apart := false, narrowed := true }
def FnExactChancesForUptoSaid : Prop := fnExactChancesForUptoRow.holds Try.pinned (OpenSpec.upto fnExactChancesForSpec)

/-- 'laws.FnFlicker', WHERE WHAT IT READS IS OF BULK AT MOST 1048576: true; the input reads as it did. -/
def fnFlickerUptoRow : OpenClaim := { program := "yteidpiebjjekbaa", sum := "8f84b442725c9eae80da7907be194b0cb8b9eda6449572b9afcb57372d6d42f2", func := "loop.example/g01265/laws.FnFlicker", spec := "fnFlicker", apart := false, narrowed := true }
def FnFlickerUptoSaid : Prop := fnFlickerUptoRow.holds Try.pinned (OpenSpec.upto fnFlickerSpec)

end Rows
end Go.Proofs.Yteidpiebjjekbaa
