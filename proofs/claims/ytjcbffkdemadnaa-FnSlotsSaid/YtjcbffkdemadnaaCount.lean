/- Contracts of the functions that count the bars of a cell. -/
import Derived.Test.YtjcbffkdemadnaaPlain
import Derived.Test.YtjcbffkdemadnaaCell
import Derived.Lib.Hide
namespace Go.Proofs.Ytjcbffkdemadnaa
open Go.RowKit

/-- How many of the first k bars light. -/
def cntP (c : Nat) : Nat → Nat
  | 0 => 0
  | k + 1 => cntP c k + c / 2 ^ k % 2
/-- How many bars light. -/
def cnt (c : Nat) : Nat := cntP c 7
theorem cntP_le (c k : Nat) : cntP c k ≤ k := by
  induction k with
  | zero => exact Nat.le_refl _
  | succ k ih => have : c / 2 ^ k % 2 < 2 := Nat.mod_lt _ (by omega); unfold cntP; omega
theorem cnt_le (c : Nat) : cnt c ≤ 7 := cntP_le c 7
theorem bit_and (c k : Nat) (hc : c < 4611686018427387904) : bits .and .i64 ((c : Int) / 2 ^ k) 1 = ((c / 2 ^ k % 2 : Nat) : Int) := by
  have h1 : c / 2 ^ k ≤ c := Nat.div_le_self _ _
  have e : ((c : Int) / 2 ^ k) = ((c / 2 ^ k : Nat) : Int) := by simp
  rw [e, show (1 : Int) = ((1 : Nat) : Int) from rfl, and64 _ _ (by omega) (by omega), Nat.and_one_is_mod]
theorem l2Count_any (c : Nat) (hc : c < 128) (w : World) : Calls Try.prog 54 #[.int .i64 c] w
    fun e w' => e = .returned (.int .i64 (cnt c)) ∧ w = w' := by
  go_enter Try.func54, Try.ntmps54
  go_wp2
  go_loop [3, 4] (fun m i => ∃ k : Nat, k ≤ 7 ∧ i = .int .i64 k ∧ m = .int .i64 (cntP c k)) (fun _ i => 7 - (intOf i).toNat)
  case atStart => exact ⟨0, by omega, rfl, rfl⟩
  case round =>
    obtain ⟨k, hle, rfl, rfl⟩ := hrel
    have hl := cntP_le c k
    by_cases hlt : k < 7
    · have hb := bit_and c k (by omega)
      have hm : c / 2 ^ k % 2 < 2 := Nat.mod_lt _ (by omega)
      go_wp2
      go_round
      case rel => exact ⟨k + 1, by omega, by go_num, by simp [cntP]⟩
      case measure => simp [intOf]; omega
    · have hk : k = 7 := by omega
      subst hk
      go_wp2
      go_ret
      exact ⟨rfl, rfl⟩
theorem ret_of {a b : Int} {w : World} (h : a = b) : Ending.returned (.int .i64 a) = .returned (.int .i64 b) ∧ w = w := ⟨by rw [h], rfl⟩
theorem OnesCount64_any (c : Nat) (hc : c < 128) (w : World) : Calls Try.prog 97 #[.int .u64 c] w
    fun e w' => e = .returned (.int .i64 (cnt c)) ∧ w = w' := by
  go_enter Try.func97, Try.ntmps97
  go_wp2
  go_ret
  refine ret_of ?_
  obtain ⟨x, rfl⟩ : ∃ x : Fin 128, x.val = c := ⟨⟨c, hc⟩, rfl⟩
  clear hc w
  revert x
  decide +kernel
theorem OnesCount_any (c : Nat) (hc : c < 128) (w : World) : Calls Try.prog 83 #[.int .u64 c] w
    fun e w' => e = .returned (.int .i64 (cnt c)) ∧ w = w' := by
  go_enter Try.func83, Try.ntmps83
  go_wp2_with (go_at_call 97; refine (OnesCount64_any c hc _).mono ?_; rintro e w' ⟨rfl, rfl⟩)
  go_ret
  exact ⟨rfl, rfl⟩
theorem count_any (c : Nat) (hc : c < 128) (w : World) : Calls Try.prog 62 #[.int .i64 c] w
    fun e w' => e = .returned (.int .i64 (cnt c)) ∧ w = w' := by
  go_enter Try.func62, Try.ntmps62
  go_wp2_with (go_at_call 83; refine (OnesCount_any c hc _).mono ?_; rintro e w' ⟨rfl, rfl⟩)
  go_ret
  exact ⟨rfl, rfl⟩
end Go.Proofs.Ytjcbffkdemadnaa
