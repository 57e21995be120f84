/- The contract of the function that returns the least number that is not in a list. -/
import Derived.Test.YtpcmlfohblglaabTabV
import Derived.Test.YtpcmlfohblglaabFind
import Derived.Lib.Hide
namespace Go.Proofs.Ytpcmlfohblglaab
open Go.RowKit

/-- From k on, looking at most so often, the first number that is not in the list. -/
def mexF (L : List Int) : Nat → Nat → Nat
  | 0, k => k
  | t + 1, k => if L.contains (k : Int) = true then mexF L t (k + 1) else k
/-- The least number that is not in a list. -/
def mexN (L : List Int) : Nat := mexF L (L.length + 1) 0
theorem pigeon : ∀ (k : Nat) (L : List Int), (∀ i : Nat, i < k → (i : Int) ∈ L) → k ≤ L.length
  | 0, _, _ => Nat.zero_le _
  | k + 1, L, h => by
    have hk := h k (by omega)
    have h1 := pigeon k (L.erase (k : Int)) (fun i hi => (List.mem_erase_of_ne (by omega)).2 (h i (by omega)))
    rw [List.length_erase_of_mem hk] at h1
    have := List.length_pos_of_mem hk
    omega
theorem mexF_in {L : List Int} {k : Nat} (h : L.contains (k : Int) = true) (hk : k < L.length) : mexF L (L.length + 1 - k) k = mexF L (L.length + 1 - (k + 1)) (k + 1) := by
  rw [show L.length + 1 - k = (L.length + 1 - (k + 1)) + 1 by omega]
  show (if _ then _ else _) = _
  rw [if_pos h]
theorem mexF_out {L : List Int} {k : Nat} (h : L.contains (k : Int) = false) (hk : k ≤ L.length) : mexF L (L.length + 1 - k) k = k := by
  rw [show L.length + 1 - k = (L.length - k) + 1 by omega]
  show (if _ then _ else _) = _
  rw [if_neg (by rw [h]; decide)]
/-- All numbers below k are in the list, and the least absent is looked for from k on. -/
def mexAt (L : List Int) (k : Nat) : Prop := (∀ i : Nat, i < k → (i : Int) ∈ L) ∧ mexF L (L.length + 1 - k) k = mexN L
theorem mexAt_zero (L : List Int) : mexAt L 0 := ⟨fun _ h => absurd h (by omega), rfl⟩
theorem mexAt_le {L : List Int} {k : Nat} (h : mexAt L k) : k ≤ L.length := pigeon k L h.1
theorem mexAt_in {L : List Int} {k : Nat} (h : mexAt L k) (hc : L.contains (k : Int) = true) : mexAt L (k + 1) ∧ k < L.length := by
  have h1 : ∀ i : Nat, i < k + 1 → (i : Int) ∈ L := fun i hi => by
    rcases Nat.lt_or_ge i k with h2 | h2
    · exact h.1 i h2
    · have : i = k := by omega
      subst this; simpa using hc
  have h2 := pigeon (k + 1) L h1
  exact ⟨⟨h1, by rw [← mexF_in hc (by omega)]; exact h.2⟩, by omega⟩
theorem mexAt_out {L : List Int} {k : Nat} (h : mexAt L k) (hc : L.contains (k : Int) = false) : mexN L = k := by
  rw [← h.2]; exact mexF_out hc (mexAt_le h)
/-- A slice of ints reads as the ints. -/
theorem RdI_of_V {w : World} {ao : Option Addr} {vs : List Int} (h : RdV w ao (vs.map (Value.int .i64))) : RdI w ao vs := by
  rcases h with h | ⟨b, off, rfl, hlt, hc⟩
  · exact .inl (by simpa using h)
  · refine .inr ⟨b, off, rfl, hlt, fun j hj => ?_⟩
    rw [hc j (by simpa using hj)]
    simp [hj]
theorem leastAbsent_any (c : Int) (ao : Option Addr) (n cap : Nat) (L : List Int) (w : World) (hr : RdI w ao L) (hn : L.length = n) (hm : n ≤ 1000000) :
    Calls Try.prog 29 #[.int .i64 c, .slice ao n cap] w fun e w' => e = .returned (.int .i64 (mexN L : Nat)) ∧ w = w' := by
  have HN := Lib.hid hn
  go_enter Try.func29, Try.ntmps29
  go_wp2
  go_loop [5] (fun i => ∃ k : Nat, i = .int .i64 k ∧ mexAt L k) (fun i => n - (intOf i).toNat)
  case atStart => exact ⟨0, rfl, mexAt_zero L⟩
  case round =>
    obtain ⟨k, rfl, hat⟩ := hrel
    have hle := mexAt_le hat
    rw [hn] at hle
    obtain ⟨b, hb⟩ : ∃ b, L.contains (k : Int) = b := ⟨_, rfl⟩
    have HB := Lib.hid hb
    rcases b with _ | _
    · have HX := Lib.hid (mexAt_out hat hb)
      clear hb hat hn
      go_wp2_with (first | (go_at_call 57; refine (sliceContains_any _ _ _ L _ _ hr HN.out (by unfold maxLen; omega)).mono ?_; rw [HB.out]; rintro e w1 ⟨rfl, rfl⟩))
      go_ret
      exact ⟨by rw [HX.out]; rfl, rfl⟩
    · obtain ⟨hat2, hlt⟩ := mexAt_in hat hb
      rw [hn] at hlt
      have HA := Lib.hid hat2
      clear hb hat hn hat2
      go_wp2_with (first | (go_at_call 57; refine (sliceContains_any _ _ _ L _ _ hr HN.out (by unfold maxLen; omega)).mono ?_; rw [HB.out]; rintro e w1 ⟨rfl, rfl⟩))
      go_round
      case rel => exact ⟨k + 1, by go_num, HA.out⟩
      case measure => simp [intOf]; omega
end Go.Proofs.Ytpcmlfohblglaab
