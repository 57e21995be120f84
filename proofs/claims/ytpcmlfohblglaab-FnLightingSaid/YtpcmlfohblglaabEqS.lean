/- Two slices that read the same are found equal. -/
import Derived.Test.YtpcmlfohblglaabRd
import Derived.Lib.Hide
import Derived.Deep.QuietTactic
import Derived.BigQuiet
namespace Go.Proofs.Ytpcmlfohblglaab
open Go.RowKit

end Go.Proofs.Ytpcmlfohblglaab
