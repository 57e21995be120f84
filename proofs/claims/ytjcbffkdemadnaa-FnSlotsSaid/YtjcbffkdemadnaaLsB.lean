/- What LeastSwitches tells. -/
import Derived.Test.YtjcbffkdemadnaaSeqM
import Derived.Test.YtjcbffkdemadnaaLtS
import Derived.Test.YtjcbffkdemadnaaSwS
import Derived.Test.YtjcbffkdemadnaaSlotP
namespace Go.Proofs.Ytjcbffkdemadnaa
open Go.RowKit

/-- The arguments are as LeastSwitches wants them; the best sequence; its switches. -/
def lsB (k : Int) (l : List (Int × Int)) : Bool := goodS k l && decide (l.length ≤ 6)
def lsO (l : List (Int × Int)) : Option (List (Int × Int)) := stF none [] (sortS l)
def lsL (k : Int) (l : List (Int × Int)) : List (Int × Int) := if lsB k l = true then bestO (lsO l) else []
def lsN (k : Int) (l : List (Int × Int)) : Int := if lsB k l = true then leastO (lsO l) else 0
theorem goodS_small {k : Int} {l : List (Int × Int)} (h : goodS k l = true) : smallS l := by
  unfold goodS frameB at h
  simp only [Bool.and_eq_true, decide_eq_true_eq, inB_iff] at h
  obtain ⟨⟨h1, h2⟩, _, h3⟩ := h
  intro x hx
  have h4 := List.all_eq_true.1 h3 x hx
  unfold slotB at h4
  rw [Bool.and_eq_true, inB_iff, inB_iff] at h4
  have h5 := (shlS k.toNat (by omega)).2.1
  omega
end Go.Proofs.Ytjcbffkdemadnaa
