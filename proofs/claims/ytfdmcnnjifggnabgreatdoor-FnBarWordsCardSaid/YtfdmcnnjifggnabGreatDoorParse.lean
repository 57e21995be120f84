/- Contracts of the functions that give the cells of the letters. -/
import Derived.Test.YtfdmcnnjifggnabGreatDoorContains
import Derived.Test.YtfdmcnnjifggnabGreatDoorMask
import Derived.Test.YtfdmcnnjifggnabGreatDoorRd
import Derived.Lib.Hide
namespace Go.Proofs.YtfdmcnnjifggnabGreatDoor
open Go.RowKit

/-- A text has the letter of a bar. -/
def hasL (s : ByteArray) (k : Nat) : Bool := decide (0 ≤ Lib.indexByte s.data.toList (UInt8.ofNat (97 + k)))
theorem letter_at (k : Nat) (hk : k < 7) : (⟨#[97, 98, 99, 100, 101, 102, 103]⟩ : ByteArray).extract k (k + 1) = ⟨#[UInt8.ofNat (97 + k)]⟩ := by
  match k, hk with
  | 0, _ => rfl
  | 1, _ => rfl
  | 2, _ => rfl
  | 3, _ => rfl
  | 4, _ => rfl
  | 5, _ => rfl
  | 6, _ => rfl
set_option maxHeartbeats 800000 in
/-- A text that is the letters of the bars that it has: its cell. -/
theorem ParseBars_good (s : ByteArray) (hs : lettersP (hasL s) 7 = s) (w : World) : Calls Tryz.prog 89 #[.string s] w
    fun e w' => e = .returned (.tuple #[.int .i64 (maskP (hasL s) 7), .bool true]) ∧ w = w' := by
  have hS : lettersP (fun k => maskP (hasL s) 7 / 2 ^ k % 2 == 1) 7 = s := by
    rw [lettersP_congr _ (hasL s) 7 fun i hi => maskP_bit (hasL s) i hi, hs]
  have HB := Lib.hid (fun W => barsOf_any (maskP (hasL s) 7) (maskP_lt _ 7) W)
  rw [hS] at HB
  have hq : ∀ k, k < 7 → hasL s k = decide (0 ≤ Lib.indexByte s.data.toList (UInt8.ofNat (97 + k))) := fun _ _ => rfl
  have HQ := Lib.hid hq
  clear hS hs hq
  generalize hasL s = p at HB HQ ⊢
  go_enter Tryz.func89, Tryz.ntmps89
  go_wp2
  go_loop [4, 6] (fun c i => ∃ k : Nat, k ≤ 7 ∧ i = .int .i64 k ∧ c = .int .i64 (maskP p k)) (fun _ i => 7 - (intOf i).toNat)
  case atStart => exact ⟨0, by omega, rfl, rfl⟩
  case round =>
    obtain ⟨k, hle, rfl, rfl⟩ := hrel
    by_cases hlt : k < 7
    · have hs := shl_fact k hlt
      have hp := pow_lt k hlt
      have hM := Nat.lt_of_lt_of_le (maskP_lt p k) (Nat.pow_le_pow_right (n := 2) (by omega) hle)
      have hx := or64 (maskP p k) (2 ^ k) (by omega) (by omega)
      have hsucc : maskP p (k + 1) = if p k = true then maskP p k ||| 2 ^ k else maskP p k := rfl
      have HC := Lib.hid (fun W => strings_Contains_one s (UInt8.ofNat (97 + k)) W)
      rw [← HQ.out k hlt, ← letter_at k hlt] at HC
      generalize maskP p k = M at hM hx hsucc ⊢
      generalize (2 ^ k : Nat) = m at *
      generalize p k = q at hsucc HC
      have HS := Lib.hid hsucc
      clear hsucc
      rcases q with _ | _
      · go_wp2_with (first | (go_at_call 105; refine (HC.out _).mono ?_; rintro e w' ⟨rfl, rfl⟩))
        go_round
        case rel => exact ⟨k + 1, by omega, by go_num, by rw [HS.out]; rfl⟩
        case measure => simp [intOf]; omega
      · go_wp2_with (first | (go_at_call 105; refine (HC.out _).mono ?_; rintro e w' ⟨rfl, rfl⟩))
        go_round
        case rel => exact ⟨k + 1, by omega, by go_num, by rw [HS.out]; rfl⟩
        case measure => simp [intOf]; omega
    · have hk : k = 7 := by omega
      subst hk
      go_wp2_with (first | (go_at_call 106; refine (HB.out _).mono ?_; rintro e w' ⟨rfl, rfl⟩))
      go_ret2
      exact ⟨rfl, rfl⟩
end Go.Proofs.YtfdmcnnjifggnabGreatDoor
