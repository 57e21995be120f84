/- Words, their rows and their numbers, there and back: plain law. -/
import Derived.Test.YtfdmcnnjifggnabGreatDoorBarA
import Derived.Test.YtfdmcnnjifggnabGreatDoorNOfW
import Derived.Test.YtfdmcnnjifggnabGreatDoorRowN
import Derived.Test.YtfdmcnnjifggnabGreatDoorWCh
namespace Go.Proofs.YtfdmcnnjifggnabGreatDoor
open Go.RowKit

theorem back_back (f : Nat → Nat) (hf : ∀ c, c < 128 → f (f c) = c) (L : List Int) (hL : ∀ x ∈ L, inB 0 127 x = true) : backL f (backL f L) = L := by
  unfold backL
  rw [List.map_reverse, List.reverse_reverse, List.map_map]
  refine (List.map_congr_left fun x hx => ?_).trans (List.map_id _)
  have h := hL x hx
  rw [inB_iff] at h
  obtain ⟨c, rfl⟩ := Int.eq_ofNat_of_zero_le h.1
  show ((f (((f ((c : Int)).toNat : Nat) : Int)).toNat : Nat) : Int) = c
  rw [Int.toNat_natCast, Int.toNat_natCast, hf c (by omega)]
theorem tur_tur (c : Nat) (h : c < 128) : turC (turC c) = c := by
  have : ∀ x : Fin 128, turC (turC x.val) = x.val := by decide +kernel
  exact this ⟨c, h⟩
theorem mir_mir (c : Nat) (h : c < 128) : mirC (mirC c) = c := by
  have : ∀ x : Fin 128, mirC (mirC x.val) = x.val := by decide +kernel
  exact this ⟨c, h⟩
theorem dof_dig : ∀ d : Fin 10, dofI ((digC d.val : Nat) : Int) = (d.val : Int) := by decide +kernel
theorem numK_take (A B : List Int) (k : Nat) (hk : k ≤ A.length) : numK (A ++ B) k = numK A k := by
  induction k with
  | zero => rfl
  | succ k ih =>
    unfold numK
    rw [ih (by omega), List.getD_eq_getElem?_getD, List.getElem?_append_left (by omega), ← List.getD_eq_getElem?_getD]
/-- The row of a number shows it. -/
theorem num_row (n : Nat) : numAll (rowN n) = true ∧ numK (rowN n) (rowN n).length = (n : Int) ∧ 0 < (rowN n).length := by
  induction n using Nat.strongRecOn with
  | _ n ih =>
    rw [rowN_last n]
    have hd := dof_dig ⟨n % 10, Nat.mod_lt _ (by omega)⟩
    simp only at hd
    by_cases h : n < 10
    · rw [if_pos h]
      rw [Nat.mod_eq_of_lt h] at hd ⊢
      refine ⟨?_, ?_, by simp⟩
      · show (List.all [_] _) = true
        rw [List.all_cons, hd]; simp
      · show 10 * 0 + dofI ((digC n : Nat) : Int) = _
        rw [hd]; omega
    · rw [if_neg h]
      obtain ⟨h1, h2, h3⟩ := ih (n / 10) (by omega)
      refine ⟨?_, ?_, by simp⟩
      · unfold numAll at h1 ⊢
        rw [List.all_append, h1, List.all_cons, hd]; simp; omega
      · have e : ∀ (A : List Int) (k : Nat), numK A (k + 1) = 10 * numK A k + dofI (A.getD k 0) := fun _ _ => rfl
        rw [List.length_append, show (rowN (n / 10)).length + [((digC (n % 10) : Nat) : Int)].length = (rowN (n / 10)).length + 1 from rfl, e, numK_take _ _ _ (Nat.le_refl _), h2, List.getD_eq_getElem?_getD, List.getElem?_append_right (Nat.le_refl _), Nat.sub_self]
        show 10 * ((n / 10 : Nat) : Int) + dofI ((digC (n % 10) : Nat) : Int) = n
        rw [hd]
        omega
theorem chP_comm (A B : List Int) (k : Nat) : chP A B k = chP B A k := by
  induction k with
  | zero => rfl
  | succ k ih => unfold chP; rw [ih, Nat.xor_comm]
theorem cnt_no : ∀ x : Fin 128, cnt x.val = 0 → x.val = 0 := by decide +kernel
theorem chP_zero (A B : List Int) (hA : ∀ j, inB 0 127 (A.getD j 0) = true) (hB : ∀ j, inB 0 127 (B.getD j 0) = true) (k : Nat) : chP A B k = 0 ↔ ∀ j, j < k → A.getD j 0 = B.getD j 0 := by
  induction k with
  | zero => exact ⟨fun _ j hj => by omega, fun _ => rfl⟩
  | succ k ih =>
    have ha := hA k
    have hb := hB k
    rw [inB_iff] at ha hb
    obtain ⟨a, hae⟩ := Int.eq_ofNat_of_zero_le ha.1
    obtain ⟨b, hbe⟩ := Int.eq_ofNat_of_zero_le hb.1
    have hs : chP A B (k + 1) = chP A B k + cnt (a ^^^ b) := by
      show chP A B k + cnt ((A.getD k 0).toNat ^^^ (B.getD k 0).toNat) = _
      rw [hae, hbe]; rfl
    have hz : cnt (a ^^^ b) = 0 ↔ a = b := by
      constructor
      · intro h
        have hx := cnt_no ⟨a ^^^ b, Nat.xor_lt_two_pow (n := 7) (by omega) (by omega)⟩ h
        simp only at hx
        have h2 : a ^^^ b ^^^ b = a := by rw [Nat.xor_assoc, Nat.xor_self, Nat.xor_zero]
        rw [hx, Nat.zero_xor] at h2
        exact h2.symm
      · intro h; subst h; rw [Nat.xor_self]; rfl
    rw [hs]
    constructor
    · intro h j hj
      by_cases hjk : j = k
      · subst hjk; rw [hae, hbe, hz.1 (by omega)]
      · exact ih.1 (by omega) j (by omega)
    · intro h
      have h1 := ih.2 fun j hj => h j (by omega)
      have h2 := h k (by omega)
      rw [hae, hbe] at h2
      have := hz.2 (by omega)
      omega
end Go.Proofs.YtfdmcnnjifggnabGreatDoor
