/- Contracts of the reference's functions that tell the place of a letter, and whether a text is a word. -/
import Derived.Test.YtfdmcnnjifggnabGreatDoorTrimS
import Derived.Lib.Hide
namespace Go.Proofs.YtfdmcnnjifggnabGreatDoor
open Go.RowKit

/-- The place of a letter, or -1. -/
def placeI (b : Nat) : Int := if isL b = true then ((abcN.idxOf b : Nat) : Int) else -1
theorem isP_all (b : Nat) : isP 16 b = isL b := rfl
theorem place_at (k b : Nat) (hk : k < 16) (h : isP k b = false) (hb : abcN.getD k 0 = b) : placeI b = (k : Int) := by
  subst hb
  have : ∀ x : Fin 16, isP x.val (abcN.getD x.val 0) = false → placeI (abcN.getD x.val 0) = (x.val : Int) := by decide +kernel
  exact this ⟨k, hk⟩ h
set_option maxHeartbeats 800000 in
theorem l10Place_any (b : UInt8) (w : World) : Calls Tryz.prog 62 #[.int .u8 b.toNat] w fun e w' => e = .returned (.int .i64 (placeI b.toNat)) ∧ w = w' := by
  obtain ⟨p, hp⟩ : ∃ p, placeI b.toNat = p := ⟨_, rfl⟩
  rw [hp]
  have HP := Lib.hid hp
  have hb256 : b.toNat < 256 := b.toNat_lt
  have HAt := Lib.hid abc_at
  clear hp
  generalize b.toNat = c at *
  go_enter Tryz.func62, Tryz.ntmps62
  go_wp2
  go_loop [3] (fun i => ∃ k : Nat, k ≤ 16 ∧ i = .int .i64 k ∧ Hid (isP k c = false)) (fun i => 16 - (intOf i).toNat)
  case atStart => exact ⟨0, by omega, rfl, rfl⟩
  case round =>
    obtain ⟨k, hk, rfl, hno⟩ := hrel
    by_cases hlt : k < 16
    · have hch := (HAt.out k hlt).1
      have hs := isP_succ k c hlt
      have hpl := place_at k c hlt hno.out
      unfold abcB at hch
      generalize abcN.getD k 0 = d at hch hs hpl
      by_cases hd : d = c
      · have h2 := hpl hd
        rw [HP.out] at h2
        subst h2
        subst hd
        have HS := Lib.hid hs
        clear hs hpl
        go_wp2
        go_ret
        exact ⟨rfl, rfl⟩
      · have hs2 : isP (k + 1) c = false := by
          rw [hs, hno.out]
          simpa using fun h => hd h.symm
        have HS := Lib.hid hs2
        clear hs hs2 hpl
        go_wp2
        go_round
        case rel => exact ⟨k + 1, by omega, by go_num, HS⟩
        case measure => simp [intOf]; omega
    · have hk16 : k = 16 := by omega
      subst hk16
      have h1 : placeI c = -1 := by unfold placeI; rw [← isP_all, hno.out]; rfl
      rw [HP.out] at h1
      subst h1
      go_wp2
      go_ret
      exact ⟨rfl, rfl⟩
/-- The first k bytes are letters. -/
def allP (s : ByteArray) (k : Nat) : Bool := (s.data.toList.take k).all fun b => isL b.toNat
theorem allP_succ (s : ByteArray) (k : Nat) (h : k < s.size) : allP s (k + 1) = (allP s k && isL (s[k]'h).toNat) := by
  unfold allP
  rw [at_list, List.take_succ_eq_append_getElem (by rw [size_len]; exact h), List.all_append]
  simp
theorem allP_all (s : ByteArray) : allP s s.size = allIn s := by
  unfold allP allIn
  rw [List.take_of_length_le (by rw [size_len]; exact Nat.le_refl _)]
theorem allP_bad (s : ByteArray) (k : Nat) (h : k < s.size) (hb : isL (s[k]'h).toNat = false) : allIn s = false := by
  rw [← Bool.not_eq_true]
  intro hc
  unfold allIn at hc
  rw [List.all_eq_true] at hc
  have := hc (s[k]'h) (by rw [at_list]; exact List.getElem_mem _)
  rw [hb] at this
  cases this
theorem place_neg (b : Nat) : (placeI b < 0) = (isL b = false) := by
  unfold placeI
  cases isL b with
  | false => simp
  | true => simp
set_option maxHeartbeats 800000 in
theorem l10Word_any (s : ByteArray) (most : Nat) (hm : most ≤ 1000) (hs : s.size ≤ maxLen) (w : World) : Calls Tryz.prog 37 #[.string s, .int .i64 most] w fun e w' => e = .returned (.bool (wordB s most)) ∧ w = w' := by
  unfold maxLen at hs
  obtain ⟨R, hR⟩ : ∃ R, wordB s most = R := ⟨_, rfl⟩
  rw [hR]
  have HR := Lib.hid hR
  clear hR
  go_enter Tryz.func37, Tryz.ntmps37
  go_wp2
  go_loop [5] (fun i => ∃ k : Nat, k ≤ s.size ∧ k ≤ most + 1 ∧ i = .int .i64 k ∧ Hid (allP s k = true)) (fun i => s.size - (intOf i).toNat)
  case atStart => exact ⟨0, by omega, by omega, rfl, rfl⟩
  case round =>
    obtain ⟨k, hk, hk2, rfl, hall⟩ := hrel
    by_cases hlt : k < s.size
    · by_cases hmo : k ≤ most
      · have hd1 : decide ((k : Int) < (s.size : Int)) = true := by simp; omega
        have hd2 : decide ((k : Int) ≤ (most : Int)) = true := by simp; omega
        have hsucc := allP_succ s k hlt
        have hbad := allP_bad s k hlt
        have hneg := place_neg (s[k]'hlt).toNat
        have HC := Lib.hid (fun W => l10Place_any (s[k]'hlt) W)
        generalize placeI (s[k]'hlt).toNat = p at hneg HC
        generalize hq : isL (s[k]'hlt).toNat = q at hsucc hbad hneg
        rw [hall.out, Bool.true_and] at hsucc
        clear hq
        rcases q with _ | _
        · have hf : R = false := by rw [← HR.out]; unfold wordB; rw [hbad rfl, Bool.and_false]
          subst hf
          have hp : p < 0 := by rw [hneg]
          clear hsucc hbad hneg
          go_wp2_with (first | (go_at_call 62; refine (HC.out _).mono ?_; rintro e w' ⟨rfl, rfl⟩))
          go_ret
          exact ⟨rfl, rfl⟩
        · have hp : ¬ p < 0 := by rw [hneg]; decide
          have HS := Lib.hid hsucc
          clear hsucc hbad hneg
          go_wp2_with (first | (go_at_call 62; refine (HC.out _).mono ?_; rintro e w' ⟨rfl, rfl⟩))
          go_round
          case rel => exact ⟨k + 1, by omega, by omega, by go_num, HS⟩
          case measure => simp [intOf]; omega
      · have hd1 : decide ((k : Int) < (s.size : Int)) = true := by simp; omega
        have hd2 : decide ((k : Int) ≤ (most : Int)) = false := by simp; omega
        have hf : R = false := by rw [← HR.out]; unfold wordB; rw [decide_eq_false (by omega), Bool.false_and]
        subst hf
        go_wp2
        go_ret
        exact ⟨ret_bool (by simp; omega), rfl⟩
    · have hks : k = s.size := by omega
      subst hks
      have hA := hall.out
      rw [allP_all] at hA
      have hR : R = decide (s.size ≤ most) := by rw [← HR.out]; unfold wordB; rw [hA, Bool.and_true]
      subst hR
      clear hA hall
      go_wp2
      go_ret
      exact ⟨ret_bool (by simp; try omega), rfl⟩
end Go.Proofs.YtfdmcnnjifggnabGreatDoor
