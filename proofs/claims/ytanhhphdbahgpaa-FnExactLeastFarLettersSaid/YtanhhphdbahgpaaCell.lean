/- Contracts of the functions that only look at one number. -/
import Derived.Test.YtanhhphdbahgpaaBase
namespace Go.Proofs.Ytanhhphdbahgpaa
open Go.RowKit

end Go.Proofs.Ytanhhphdbahgpaa
