/- Contracts of the functions that look for a number in a slice. -/
import Derived.Test.YtfdmcnnjifggnabGreatDoorRd
import Derived.Test.YtfdmcnnjifggnabGreatDoorCell
import Derived.Lib.Hide
namespace Go.Proofs.YtfdmcnnjifggnabGreatDoor
open Go.RowKit

/-- The place of the first x in a list whose first element has the place n, or -1. -/
def idxFrom : List Int → Int → Nat → Int
  | [], _, _ => -1
  | y :: ys, x, n => if y = x then (n : Int) else idxFrom ys x (n + 1)
theorem idxFrom_ge (L : List Int) (x : Int) (n : Nat) : (decide (0 ≤ idxFrom L x n)) = L.contains x := by
  induction L generalizing n with
  | nil => simp [idxFrom]
  | cons y ys ih =>
    unfold idxFrom
    by_cases h : y = x
    · simp [h]
    · rw [if_neg h, ih]
      have : (x == y) = false := by simp; exact fun e => h e.symm
      simp only [List.contains_cons, this, Bool.false_or]
theorem drop_cons (L : List Int) (k : Nat) (h : k < L.length) : L.drop k = L.getD k 0 :: L.drop (k + 1) := by
  rw [List.drop_eq_getElem_cons h]; simp [h]
/-- A slice's first part reads as the first numbers. -/
theorem RdI_take {w : World} {ao : Option Addr} {L : List Int} (h : RdI w ao L) (k : Nat) : RdI w ao (L.take k) := by
  rcases h with rfl | ⟨b, off, rfl, hb, hc⟩
  · exact .inl (by simp)
  · refine .inr ⟨b, off, rfl, hb, fun j hj => ?_⟩
    have hj' : j < k ∧ j < L.length := by rw [List.length_take] at hj; omega
    rw [hc j hj'.2]
    congr 2
    simp only [List.getD_eq_getElem?_getD, List.getElem?_take_of_lt hj'.1]
theorem sliceIndex_any (ao : Option Addr) (n cap : Nat) (L : List Int) (x : Int) (w : World) (hr : RdI w ao L) (hn : L.length = n) (hm : n ≤ maxLen) :
    Calls Tryz.prog 64 #[.slice ao n cap, .int .i64 x] w fun e w' => e = .returned (.int .i64 (idxFrom L x 0)) ∧ w = w' := by
  unfold maxLen at hm
  obtain ⟨R, hR⟩ : ∃ R, idxFrom L x 0 = R := ⟨_, rfl⟩
  rw [hR]
  go_enter Tryz.func64, Tryz.ntmps64
  go_wp2
  go_loop [8] (fun i => ∃ k : Nat, k ≤ n ∧ i = .int .i64 k ∧ idxFrom (L.drop k) x k = R) (fun i => n - (intOf i).toNat)
  case atStart => exact ⟨0, by omega, rfl, by simpa using hR⟩
  case round =>
    obtain ⟨k, hle, rfl, hd⟩ := hrel
    by_cases hlt : k < n
    · rcases hr with h | ⟨b1, o1, rfl, hb1, hc1⟩
      · rw [h] at hn; simp at hn; omega
      have hx := hc1 k (by omega)
      rw [drop_cons L k (by omega)] at hd
      unfold idxFrom at hd
      generalize L.getD k 0 = y at hx hd
      clear hc1 hR hn
      by_cases hy : y = x
      · subst hy
        rw [if_pos rfl] at hd
        subst hd
        go_wp2
        go_ret
        exact ⟨rfl, rfl⟩
      · rw [if_neg hy] at hd
        have hz : (x == y) = false := by simp; exact fun e => hy e.symm
        have HD := Lib.hid hd
        clear hd hy
        go_wp2
        go_round
        case rel => exact ⟨k + 1, by omega, by go_num, HD.out⟩
        case measure => simp [intOf]; omega
    · have hkn : k = n := by omega
      subst hkn
      rw [List.drop_eq_nil_of_le (by omega)] at hd
      unfold idxFrom at hd
      subst hd
      clear hR hn
      go_wp2
      go_ret
      exact ⟨rfl, rfl⟩
end Go.Proofs.YtfdmcnnjifggnabGreatDoor
