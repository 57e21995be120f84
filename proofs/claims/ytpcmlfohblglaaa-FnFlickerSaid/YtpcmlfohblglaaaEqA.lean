/- Two arrays of two numbers that are the same are found equal. -/
import Derived.Test.YtpcmlfohblglaaaBase
import Derived.Lib.Hide
import Derived.Deep.QuietTactic
import Derived.BigQuiet
namespace Go.Proofs.Ytpcmlfohblglaaa
open Go.RowKit
end Go.Proofs.Ytpcmlfohblglaaa
