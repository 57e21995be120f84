/- The contract of the reference's distance of two cells. -/
import Derived.Test.YtanhhphdbahgpaaDoorCount
namespace Go.Proofs.YtanhhphdbahgpaaDoor
open Go.RowKit

theorem xor_lt (a b : Nat) (ha : a < 128) (hb : b < 128) : a ^^^ b < 128 := Nat.xor_lt_two_pow (n := 7) ha hb
end Go.Proofs.YtanhhphdbahgpaaDoor
