/- The contracts of the functions that compute the number of plays, the longest and the shortest one. -/
import Derived.Test.YtpcmlfohblglaabLeast
import Derived.Lib.Hide
namespace Go.Proofs.Ytpcmlfohblglaab
open Go.RowKit

/-- Numbers one after the other into one. -/
def foldT (f : Int → Int → Int) (z : Int) (L : List Int) : Int := L.foldl f z
theorem foldT_succ (f : Int → Int → Int) (z : Int) (L : List Int) (k : Nat) (h : k < L.length) : foldT f z (L.take (k + 1)) = f (foldT f z (L.take k)) (L.getD k 0) := by
  rw [List.take_add_one, List.getElem?_eq_getElem h, List.getD_eq_getElem?_getD, List.getElem?_eq_getElem h]
  unfold foldT
  rw [List.foldl_append]
  rfl
def plusW (a b : Int) : Int := wrap64 (a + b)
def playsF (_ : Nat) (vs : List Int) : Int := if vs.length = 0 then 1 else foldT plusW 0 vs
def longF (_ : Nat) (vs : List Int) : Int := if vs.length = 0 then 0 else wrap64 (1 + foldT max (vs.getD 0 0) vs)
def shortF (_ : Nat) (vs : List Int) : Int := if vs.length = 0 then 0 else wrap64 (1 + foldT min (vs.getD 0 0) vs)
end Go.Proofs.Ytpcmlfohblglaab
