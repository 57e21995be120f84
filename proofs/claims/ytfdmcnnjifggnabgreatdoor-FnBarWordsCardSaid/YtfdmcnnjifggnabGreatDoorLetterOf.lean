/- Contracts of the functions that give the letter of a cell. -/
import Derived.Test.YtfdmcnnjifggnabGreatDoorLetters
import Derived.Lib.Hide
namespace Go.Proofs.YtfdmcnnjifggnabGreatDoor
open Go.RowKit

theorem idxFrom_cases (L : List Int) (x : Int) : ∀ n : Nat, idxFrom L x n = -1 ∨ ∃ k : Nat, n ≤ k ∧ k < n + L.length ∧ idxFrom L x n = k := by
  induction L with
  | nil => intro n; exact .inl rfl
  | cons y ys ih =>
    intro n
    unfold idxFrom
    by_cases h : y = x
    · rw [if_pos h]; exact .inr ⟨n, Nat.le_refl _, by simp, rfl⟩
    · rw [if_neg h]
      rcases ih (n + 1) with h1 | ⟨k, h1, h2, h3⟩
      · exact .inl h1
      · exact .inr ⟨k, by omega, by simp; omega, h3⟩
/-- All letters that can be shown. -/
def alphaB : ByteArray := ⟨#[97, 98, 99, 100, 101, 102, 104, 106, 108, 110, 111, 112, 114, 116, 117, 121]⟩
/-- The place of the letter of a cell, or -1. -/
def letP (c : Int) : Int := idxFrom letL c 0
theorem letP_cases (c : Int) : letP c = -1 ∨ ∃ k : Nat, k < 16 ∧ letP c = k := by
  rcases idxFrom_cases letL c 0 with h | ⟨k, _, h2, h3⟩
  · exact .inl h
  · exact .inr ⟨k, by rw [letL_length] at h2; omega, h3⟩
def letOk (c : Int) : Bool := decide (0 ≤ letP c)
def letS (c : Int) : ByteArray := if 0 ≤ letP c then alphaB.extract (letP c).toNat ((letP c).toNat + 1) else ⟨#[]⟩
theorem l10Read_any (c : Int) (w : World) : Calls Tryz.prog 66 #[.int .i64 c] w fun e w' => e = .returned (.int .i64 (letP c)) ∧ Below w.heap.size w w' := by
  obtain ⟨R, hR⟩ : ∃ R, letP c = R := ⟨_, rfl⟩
  rw [hR]
  unfold letP at hR
  go_enter Tryz.func66, Tryz.ntmps66
  go_wp2
  go_loopw [3] (fun i wr => ∃ k : Nat, k ≤ 16 ∧ i = .int .i64 k ∧ idxFrom (letL.drop k) c k = R ∧ Below w.heap.size w wr) (fun i _ => 16 - (intOf i).toNat)
  case atStart => exact ⟨0, by omega, rfl, by simpa using hR, Below.refl _ _⟩
  case round =>
    obtain ⟨k, hle, rfl, hd, hbw⟩ := hrel
    by_cases hlt : k < 16
    · rw [drop_cons letL k (by rw [letL_length]; omega), letL_getD] at hd
      unfold idxFrom at hd
      have HC := Lib.hid (fun W => l10Of_any k hlt W)
      generalize letC k = y at hd HC
      clear hR
      by_cases hy : (y : Int) = c
      · rw [if_pos hy] at hd
        subst hd
        subst hy
        go_wp2_with (go_at_call 61; refine (HC.out _).mono ?_; rintro e w1 ⟨rfl, hb1⟩)
        go_ret
        exact ⟨rfl, belowThen hbw hb1⟩
      · rw [if_neg hy] at hd
        have hz : ((y : Int) == c) = false := by simpa using hy
        have HD := Lib.hid hd
        clear hd hy
        go_wp2_with (go_at_call 61; refine (HC.out _).mono ?_; rintro e w1 ⟨rfl, hb1⟩)
        go_roundw
        case rel => exact ⟨k + 1, by omega, by go_num, HD.out, belowThen hbw hb1⟩
        case measure => simp [intOf]; omega
    · have hkn : k = 16 := by omega
      subst hkn
      rw [List.drop_eq_nil_of_le (by rw [letL_length]; omega)] at hd
      unfold idxFrom at hd
      subst hd
      clear hR
      go_wp2
      go_ret
      exact ⟨rfl, hbw⟩
theorem LetterOfS_any (c : Int) (w : World) : Calls Tryz.prog 26 #[.int .i64 c] w fun e w' => e = .returned (.tuple #[.string (letS c), .bool (letOk c)]) ∧ Below w.heap.size w w' := by
  have HC := Lib.hid (fun W => l10Read_any c W)
  unfold letS letOk
  rcases letP_cases c with h | ⟨k, hk, h⟩
  · rw [h] at HC ⊢
    clear h
    go_enter Tryz.func26, Tryz.ntmps26
    go_wp2_with (go_at_call 66; refine (HC.out _).mono ?_; rintro e w1 ⟨rfl, hb1⟩)
    go_ret2
    exact ⟨rfl, hb1⟩
  · rw [h] at HC ⊢
    rw [if_pos (by omega), Int.toNat_natCast, decide_eq_true (by omega)]
    clear h
    go_enter Tryz.func26, Tryz.ntmps26
    go_wp2_with (go_at_call 66; refine (HC.out _).mono ?_; rintro e w1 ⟨rfl, hb1⟩)
    go_ret2
    exact ⟨rfl, hb1⟩
theorem LetterOfI_any (c : Int) (w : World) : Calls Tryz.prog 25 #[.int .i64 c] w fun e w' => e = .returned (.tuple #[.string (letS c), .bool (letOk c)]) ∧ Below w.heap.size w w' := by
  have HC := Lib.hid (fun ao cap W hr => sliceIndex_any ao 16 cap letL c W hr letL_length (by unfold maxLen; omega))
  unfold letS letOk
  have h0 : idxFrom letL c 0 = letP c := rfl
  rw [h0] at HC
  clear h0
  rcases letP_cases c with h | ⟨k, hk, h⟩
  · rw [h] at HC ⊢
    clear h
    go_enter Tryz.func25, Tryz.ntmps25
    go_wp2_with (first | (go_at_call 65; refine (letterCells_any _).mono ?_; rintro e w1 ⟨ao, cap, rfl, hown, hb1⟩) | (go_at_call 64; refine (HC.out _ _ _ (RdI_owns hown)).mono ?_; rintro e w' ⟨rfl, rfl⟩))
    go_ret2
    exact ⟨rfl, hb1⟩
  · rw [h] at HC ⊢
    rw [if_pos (by omega), Int.toNat_natCast, decide_eq_true (by omega)]
    clear h
    go_enter Tryz.func25, Tryz.ntmps25
    go_wp2_with (first | (go_at_call 65; refine (letterCells_any _).mono ?_; rintro e w1 ⟨ao, cap, rfl, hown, hb1⟩) | (go_at_call 64; refine (HC.out _ _ _ (RdI_owns hown)).mono ?_; rintro e w' ⟨rfl, rfl⟩))
    go_ret2
    exact ⟨rfl, hb1⟩
end Go.Proofs.YtfdmcnnjifggnabGreatDoor
