/- Two arrays of two numbers that are the same are found equal. -/
import Derived.Test.YtpcmlfohblglaabBase
import Derived.Lib.Hide
import Derived.Deep.QuietTactic
import Derived.BigQuiet
namespace Go.Proofs.Ytpcmlfohblglaab
open Go.RowKit
end Go.Proofs.Ytpcmlfohblglaab
