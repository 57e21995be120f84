/- What the chances of cells and digits sum up to: plain law. -/
import Derived.Test.YtpcmlfohblglaaaNoDigit
import Derived.Test.YtpcmlfohblglaaaChances
import Derived.Test.YtpcmlfohblglaaaRed
namespace Go.Proofs.Ytpcmlfohblglaaa
open Go.RowKit

theorem part_sym (c a p q : Nat) : partN c a p q = partN a c p q := by unfold partN; rw [Nat.xor_comm]
theorem cf_sym (c a p q : Int) : cfOk a c p q = cfOk c a p q ∧ cfA a c p q = cfA c a p q ∧ cfB a c p q = cfB c a p q := by
  have h1 : cfOk a c p q = cfOk c a p q := by unfold cfOk; rw [Bool.and_comm (inB 0 127 a)]
  refine ⟨h1, ?_, ?_⟩
  · unfold cfA; rw [h1, part_sym]
  · unfold cfB; rw [h1, part_sym]
theorem cnt_zero : ∀ x : Fin 128, cnt x.val = 0 → x.val = 0 := by decide +kernel
theorem cnt_self (c : Nat) : cnt (c ^^^ c) = 0 := by rw [Nat.xor_self]; rfl
theorem part_zero (c a q : Nat) (hc : c < 128) (ha : a < 128) (hq : 0 < q) : partN c a 0 q ≠ 0 ↔ c = a := by
  constructor
  · intro h
    have h0 : cnt (c ^^^ a) = 0 := by
      rcases Nat.eq_zero_or_pos (cnt (c ^^^ a)) with h1 | h1
      · exact h1
      · exact absurd (by unfold partN; rw [Nat.zero_pow h1, Nat.zero_mul]) h
    have hx := cnt_zero ⟨c ^^^ a, Nat.xor_lt_two_pow (n := 7) hc ha⟩ h0
    simp only at hx
    have : c ^^^ a ^^^ a = c := by rw [Nat.xor_assoc, Nat.xor_self, Nat.xor_zero]
    rw [hx, Nat.zero_xor] at this
    exact this.symm
  · intro h
    subst h
    unfold partN
    rw [cnt_self]
    have : 0 < q ^ 7 := Nat.pow_pos hq
    simp
    omega
theorem cf_zero (c a q : Int) (h : cfOk c a 0 q = true) : (cfA c a 0 q != 0) = (c == a) := by
  have hok := h
  simp only [cfOk, Bool.and_eq_true] at hok
  obtain ⟨⟨h1, h2⟩, h3⟩ := hok
  rw [inB_iff] at h1 h2
  obtain ⟨C, rfl⟩ := Int.eq_ofNat_of_zero_le h1.1
  obtain ⟨A, rfl⟩ := Int.eq_ofNat_of_zero_le h2.1
  obtain ⟨P', Q, hP, rfl, hPQ, hQ1, hQ⟩ := flick_nat h3
  have hz := part_zero C A Q (by omega) (by omega) (by omega)
  have eA : cfA C A 0 Q = ((partN C A 0 Q / Nat.gcd (partN C A 0 Q) (Q ^ 7) : Nat) : Int) := by unfold cfA; rw [if_pos h]; simp
  rw [eA, Bool.eq_iff_iff]
  simp only [bne_iff_ne, beq_iff_eq, ne_eq]
  have hdz : partN C A 0 Q / Nat.gcd (partN C A 0 Q) (Q ^ 7) = 0 ↔ partN C A 0 Q = 0 := by
    constructor
    · intro h9
      rcases Nat.eq_zero_or_pos (partN C A 0 Q) with h8 | h8
      · exact h8
      · have := Nat.div_pos (Nat.le_of_dvd h8 (Nat.gcd_dvd_left (partN C A 0 Q) (Q ^ 7))) (Nat.gcd_pos_of_pos_left _ h8)
        omega
    · intro h9; rw [h9]; simp
  have e1 : (((partN C A 0 Q / Nat.gcd (partN C A 0 Q) (Q ^ 7) : Nat) : Int) = 0) ↔ partN C A 0 Q = 0 := by rw [← hdz]; omega
  rw [e1]
  constructor
  · intro h9; have := hz.1 h9; omega
  · intro h9; exact hz.2 (by omega)
/-- Reduced parts of a whole. -/
def rA (a T : Nat) : Int := ((red a T).1 : Int)
def rB (a T : Nat) : Int := ((red a T).2 : Int)
/-- The chance that a digit is read as k, and that it is no digit, as reduced parts. -/
theorem nd_parts (n p q : Int) (h : ndOk n p q = true) : ∃ D P' Q : Nat, n = D ∧ p = P' ∧ q = Q ∧ D < 10 ∧ P' ≤ Q ∧ 1 ≤ Q ∧ Q ≤ 10 ∧ ndA n p q = rA (restN D P' Q) (Q ^ 7) ∧ ndB n p q = rB (restN D P' Q) (Q ^ 7) ∧
    (∀ k : Nat, k < 10 → raOk n k p q = true ∧ raA n k p q = rA (partN (digC D) (digC k) P' Q) (Q ^ 7) ∧ raB n k p q = rB (partN (digC D) (digC k) P' Q) (Q ^ 7)) ∧
    restN D P' Q + sumN (fun j => partN (digC D) (digC j) P' Q) 10 = Q ^ 7 := by
  have hok := h
  simp only [ndOk, Bool.and_eq_true] at hok
  obtain ⟨h1, h3⟩ := hok
  have h1' := h1
  rw [inB_iff] at h1'
  obtain ⟨D, rfl⟩ := Int.eq_ofNat_of_zero_le h1'.1
  obtain ⟨P', Q, rfl, rfl, hPQ, hQ1, hQ⟩ := flick_nat h3
  refine ⟨D, P', Q, rfl, rfl, rfl, by omega, hPQ, hQ1, hQ, by simp [ndA, h, rA, red], by simp [ndB, h, rB, red], fun k hk => ?_, by have := rest_ok D P' Q (by omega) hPQ hQ1 hQ; unfold restN; omega⟩
  have hk2 : inB 0 9 (k : Int) = true := by rw [inB_iff]; omega
  have hr : raOk (D : Int) k P' Q = true := by unfold raOk twoDig; rw [h1, hk2, h3]; rfl
  exact ⟨hr, by simp [raA, hr, rA, red], by simp [raB, hr, rB, red]⟩
theorem fracsP_at (c p q t m k : Nat) (hk : k < m) : (fracsP c p q t m).getD (k * 2) 0 = rA (partN (digC k) c p q) t ∧ (fracsP c p q t m).getD (k * 2 + 1) 0 = rB (partN (digC k) c p q) t := by
  have hl : ∀ m, (fracsP c p q t m).length = m * 2 := by
    intro m
    induction m with
    | zero => rfl
    | succ m ih => simp [fracsP, ih]; omega
  induction m with
  | zero => omega
  | succ m ih =>
    unfold fracsP
    by_cases h : k < m
    · rw [List.getD_eq_getElem?_getD, List.getD_eq_getElem?_getD, List.getElem?_append_left (by rw [hl]; omega), List.getElem?_append_left (by rw [hl]; omega), ← List.getD_eq_getElem?_getD, ← List.getD_eq_getElem?_getD]
      exact ih h
    · have hkm : k = m := by omega
      subst hkm
      rw [List.getD_eq_getElem?_getD, List.getD_eq_getElem?_getD, List.getElem?_append_right (by rw [hl]; omega), List.getElem?_append_right (by rw [hl]; omega), hl, Nat.sub_self, show k * 2 + 1 - k * 2 = 1 by omega]
      exact ⟨rfl, rfl⟩
theorem total_succ (c p q k : Nat) : total c p q (k + 1) = total c p q k + partN (digC k) c p q := rfl
theorem sumN_succ (f : Nat → Nat) (k : Nat) : sumN f (k + 1) = sumN f k + f k := rfl
end Go.Proofs.Ytpcmlfohblglaaa
