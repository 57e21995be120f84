/- In how many Slots each bar lights; the greatest and the least such number: plain. -/
import Derived.Test.YtjcbffkdemadnaaSlot
namespace Go.Proofs.Ytjcbffkdemadnaa
open Go.RowKit

def du1 (y b : Nat) (s : Int × Int) : Nat := (s.1.toNat / 2 ^ y % 2) * (s.2.toNat / 2 ^ b % 2)
def duN (t : Nat) (l : List (Int × Int)) : Nat := (l.map (du1 (t / 7) (t % 7))).sum
theorem du1_le (y b : Nat) (s : Int × Int) : du1 y b s ≤ 1 := by
  unfold du1
  have h1 : s.1.toNat / 2 ^ y % 2 < 2 := Nat.mod_lt _ (by decide)
  have h2 : s.2.toNat / 2 ^ b % 2 < 2 := Nat.mod_lt _ (by decide)
  generalize s.1.toNat / 2 ^ y % 2 = p at *
  generalize s.2.toNat / 2 ^ b % 2 = q at *
  have : p = 0 ∨ p = 1 := by omega
  rcases this with rfl | rfl <;> omega
theorem duN_le (t : Nat) (l : List (Int × Int)) : duN t l ≤ l.length := by
  unfold duN
  induction l with
  | nil => exact Nat.le_refl _
  | cons s l ih =>
    have := du1_le (t / 7) (t % 7) s
    simp only [List.map_cons, List.sum_cons, List.length_cons]
    omega
theorem duN_succ (t : Nat) (l : List (Int × Int)) (j : Nat) (hj : j < l.length) : duN t (l.take (j + 1)) = duN t (l.take j) + du1 (t / 7) (t % 7) (l.getD j (0, 0)) := by
  unfold duN
  rw [List.take_add_one, List.getElem?_eq_getElem hj, List.map_append, List.sum_append]
  simp [hj]
def dutN (k : Nat) (l : List (Int × Int)) : List Nat := (List.range (k * 7)).map fun t => duN t l
def dutL (k : Nat) (l : List (Int × Int)) : List Int := (dutN k l).map fun z : Nat => (z : Int)
/-- The table when j Slots are through, and t places of the next one. -/
def dutP (k : Nat) (l : List (Int × Int)) (j t0 : Nat) : List Int := (List.range (k * 7)).map fun t => if t < t0 then (duN t (l.take (j + 1)) : Int) else (duN t (l.take j) : Int)
theorem dutN_length (k : Nat) (l : List (Int × Int)) : (dutN k l).length = k * 7 := by simp [dutN]
theorem dutL_length (k : Nat) (l : List (Int × Int)) : (dutL k l).length = k * 7 := by simp [dutL, dutN]
theorem dutP_length (k : Nat) (l : List (Int × Int)) (j t : Nat) : (dutP k l j t).length = k * 7 := by simp [dutP]
theorem dutL_getD (k : Nat) (l : List (Int × Int)) (t : Nat) : (dutL k l).getD t 0 = ((dutN k l).getD t 0 : Int) := by
  simp only [dutL, List.getD_eq_getElem?_getD, List.getElem?_map]
  cases (dutN k l)[t]? <;> rfl
theorem dutN_le (k : Nat) (l : List (Int × Int)) (z : Nat) (h : z ∈ dutN k l) : z ≤ l.length := by
  obtain ⟨t, _, rfl⟩ := List.mem_map.1 h
  exact duN_le t l
theorem dutP_first (k : Nat) (l : List (Int × Int)) : dutP k l 0 0 = List.replicate (k * 7) 0 := by
  unfold dutP
  rw [List.eq_replicate_iff]
  refine ⟨by simp, fun b hb => ?_⟩
  obtain ⟨y, _, rfl⟩ := List.mem_map.1 hb
  simp [duN]
theorem dutP_last (k : Nat) (l : List (Int × Int)) : dutP k l l.length 0 = dutL k l := by simp [dutP, dutL, dutN]
theorem dutP_turn (k : Nat) (l : List (Int × Int)) (j : Nat) : dutP k l j (k * 7) = dutP k l (j + 1) 0 := by
  unfold dutP
  apply List.map_congr_left
  intro y hy
  rw [if_pos (List.mem_range.1 hy), if_neg (by omega)]
theorem dutP_getD (k : Nat) (l : List (Int × Int)) (j t : Nat) (ht : t < k * 7) : (dutP k l j t).getD t 0 = (duN t (l.take j) : Int) := by simp [dutP, ht]
theorem dutP_set (k : Nat) (l : List (Int × Int)) (j t : Nat) (ht : t < k * 7) : (dutP k l j t).set t (duN t (l.take (j + 1)) : Int) = dutP k l j (t + 1) := by
  unfold dutP
  apply List.ext_getElem?
  intro i
  rw [List.getElem?_set]
  by_cases h : t = i
  · subst h
    simp [ht]
  · rw [if_neg h]
    by_cases hi : i < k * 7
    · simp [hi]
      by_cases h2 : i < t
      · rw [if_pos h2, if_pos (by omega)]
      · rw [if_neg h2, if_neg (by omega)]
    · simp [hi]
/-- The greatest and the least positive number so far. -/
def stepS (s : Nat × Nat) (z : Nat) : Nat × Nat := if 0 < z then (max s.1 z, if s.2 = 0 ∨ z < s.2 then z else s.2) else s
def brS (D : List Nat) (t : Nat) : Nat × Nat := (D.take t).foldl stepS (0, 0)
theorem brS_zero (D : List Nat) : brS D 0 = (0, 0) := by simp [brS]
theorem brS_succ (D : List Nat) (t : Nat) (ht : t < D.length) : brS D (t + 1) = stepS (brS D t) (D.getD t 0) := by
  unfold brS
  rw [List.take_add_one, List.getElem?_eq_getElem ht, List.foldl_append]
  simp [ht]
theorem brF_inv (M : Nat) (D : List Nat) : ∀ s : Nat × Nat, (∀ z ∈ D, z ≤ M) → s.1 ≤ M → s.2 ≤ s.1 → (s.1 = 0 ↔ s.2 = 0) → (D.foldl stepS s).1 ≤ M ∧ (D.foldl stepS s).2 ≤ (D.foldl stepS s).1 ∧ ((D.foldl stepS s).1 = 0 ↔ (D.foldl stepS s).2 = 0) := by
  induction D with
  | nil => intro s _ h1 h2 h3; exact ⟨h1, h2, h3⟩
  | cons z D ih =>
    intro s hD h1 h2 h3
    rw [List.foldl_cons]
    have hz := hD z (by simp)
    have hs : (stepS s z).1 ≤ M ∧ (stepS s z).2 ≤ (stepS s z).1 ∧ ((stepS s z).1 = 0 ↔ (stepS s z).2 = 0) := by
      unfold stepS
      by_cases h0 : 0 < z
      · rw [if_pos h0]
        simp only
        by_cases h4 : s.2 = 0 ∨ z < s.2
        · rw [if_pos h4]; omega
        · rw [if_neg h4]; omega
      · rw [if_neg h0]; exact ⟨h1, h2, h3⟩
    exact ih _ (fun t ht => hD t (List.mem_cons_of_mem _ ht)) hs.1 hs.2.1 hs.2.2
theorem brS_inv (M : Nat) (D : List Nat) (t : Nat) (hD : ∀ z ∈ D, z ≤ M) : (brS D t).1 ≤ M ∧ (brS D t).2 ≤ (brS D t).1 ∧ ((brS D t).1 = 0 ↔ (brS D t).2 = 0) :=
  brF_inv M _ (0, 0) (fun z hz => hD z (List.mem_of_mem_take hz)) (Nat.zero_le _) (Nat.le_refl _) (by simp)
/-- What the program holds of the least one. -/
def f13 (f : Nat) : Nat := if f = 0 then 13 else f
theorem step13 (s : Nat × Nat) (z : Nat) (h0 : 0 < z) (h12 : z ≤ 12) : stepS s z = (max s.1 z, (stepS s z).2) ∧ f13 (stepS s z).2 = min (f13 s.2) z := by
  unfold stepS
  rw [if_pos h0]
  refine ⟨rfl, ?_⟩
  simp only
  unfold f13
  by_cases h : s.2 = 0
  · have e : (if s.2 = 0 ∨ z < s.2 then z else s.2) = z := if_pos (Or.inl h)
    rw [e, if_neg (by omega), if_pos h]
    omega
  · by_cases h2 : z < s.2
    · have e : (if s.2 = 0 ∨ z < s.2 then z else s.2) = z := if_pos (Or.inr h2)
      rw [e, if_neg (by omega), if_neg h]
      omega
    · have e : (if s.2 = 0 ∨ z < s.2 then z else s.2) = s.2 := if_neg (by omega)
      rw [e, if_neg h]
      omega
end Go.Proofs.Ytjcbffkdemadnaa
