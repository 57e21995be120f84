/- Contracts of the functions that weigh what a cell is shown as. -/
import Derived.Test.YtpcmlfohblglaaaCount
import Derived.Test.YtpcmlfohblglaaaFar
import Derived.Lib.Hide
namespace Go.Proofs.Ytpcmlfohblglaaa
open Go.RowKit

/-- A flicker is valid. -/
def flickB (p q : Int) : Bool := inB 1 10 q && inB 0 q p
theorem l9Flicker_any (p q : Int) (w : World) : Calls Try.prog 28 #[.int .i64 p, .int .i64 q] w fun e w' => e = .returned (.bool (flickB p q)) ∧ w = w' := by
  by_cases h : inB 1 10 q = true
  all_goals
    try rw [Bool.not_eq_true] at h
    go_enter Try.func28, Try.ntmps28
    go_wp2_with (go_at_call 35; refine (l1In_any _ _ _ _).mono ?_; rintro e w' ⟨rfl, rfl⟩)
    go_ret
    exact ⟨ret_bool (by simp [flickB, h]), rfl⟩
theorem isFlicker_any (p q : Int) (w : World) : Calls Try.prog 23 #[.int .i64 p, .int .i64 q] w fun e w' => e = .returned (.bool (flickB p q)) ∧ w = w' := by
  by_cases h : inB 1 10 q = true
  all_goals
    try rw [Bool.not_eq_true] at h
    go_enter Try.func23, Try.ntmps23
    go_wp2_with (go_at_call 40; refine (within_any _ _ _ _).mono ?_; rintro e w' ⟨rfl, rfl⟩)
    go_ret
    exact ⟨ret_bool (by simp [flickB, h]), rfl⟩
theorem flick_nat {p q : Int} (h : flickB p q = true) : ∃ P Q : Nat, p = P ∧ q = Q ∧ P ≤ Q ∧ 1 ≤ Q ∧ Q ≤ 10 := by
  simp only [flickB, Bool.and_eq_true, inB_iff] at h
  obtain ⟨P, rfl⟩ := Int.eq_ofNat_of_zero_le h.2.1
  obtain ⟨Q, rfl⟩ := Int.eq_ofNat_of_zero_le (show 0 ≤ q by omega)
  exact ⟨P, Q, rfl, rfl, by omega, by omega, by omega⟩
theorem pow_le7 (x k : Nat) (hx : x ≤ 10) (hk : k ≤ 7) : x ^ k ≤ 10000000 :=
  Nat.le_trans (Nat.pow_le_pow_left hx k) (Nat.pow_le_pow_right (n := 10) (j := 7) (by omega) hk)
theorem l9Power_any (x n : Nat) (hx : x ≤ 10) (hn : n ≤ 7) (w : World) : Calls Try.prog 31 #[.int .i64 x, .int .i64 n] w
    fun e w' => e = .returned (.int .i64 ((x ^ n : Nat) : Int)) ∧ w = w' := by
  generalize hR : x ^ n = R
  have HR := Lib.hid hR
  clear hR
  go_enter Try.func31, Try.ntmps31
  go_wp2
  go_loop [5, 6] (fun o i => ∃ k m : Nat, k ≤ n ∧ i = .int .i64 k ∧ o = .int .i64 m ∧ Hid (x ^ k = m)) (fun _ i => n - (intOf i).toNat)
  case atStart => exact ⟨0, 1, by omega, rfl, rfl, rfl⟩
  case round =>
    obtain ⟨k, m, hle, rfl, rfl, hm⟩ := hrel
    by_cases hlt : k < n
    · have hp := pow_le7 x (k + 1) hx (by omega)
      rw [Nat.pow_succ, hm.out] at hp
      have hmi : ((m * x : Nat) : Int) = (m : Int) * (x : Int) := by simp
      have hi0 : (0 : Int) ≤ (m : Int) * (x : Int) := by omega
      have hi1 : (m : Int) * (x : Int) ≤ 10000000 := by omega
      have HM := Lib.hid hmi
      clear hmi hp
      go_wp2
      go_round
      case rel => exact ⟨k + 1, m * x, by omega, by go_num, by rw [HM.out], (by show x ^ (k + 1) = m * x; rw [Nat.pow_succ, hm.out])⟩
      case measure => simp [intOf]; omega
    · have hkn : k = n := by omega
      subst hkn
      go_wp2
      go_ret
      exact ⟨ret_int (by rw [← HR.out, hm.out]), rfl⟩
/-- How much of q to the power of 7 it is that a cell is shown as another one. -/
def partN (c a p q : Nat) : Nat := p ^ cnt (c ^^^ a) * (q - p) ^ (7 - cnt (c ^^^ a))
theorem partN_le (c a p q : Nat) (hp : p ≤ q) (hq : q ≤ 10) : partN c a p q ≤ 10000000 := by
  have hf := cnt_le (c ^^^ a)
  unfold partN
  have h1 := Nat.pow_le_pow_left (show p ≤ 10 by omega) (cnt (c ^^^ a))
  have h2 := Nat.pow_le_pow_left (show q - p ≤ 10 by omega) (7 - cnt (c ^^^ a))
  refine Nat.le_trans (Nat.mul_le_mul h1 h2) ?_
  rw [← Nat.pow_add]
  exact Nat.pow_le_pow_right (n := 10) (j := 7) (by omega) (by omega)
theorem l9Parts_any (c a p q : Nat) (hc : c < 128) (ha : a < 128) (hp : p ≤ q) (hq : q ≤ 10) (w : World) : Calls Try.prog 30 #[.int .i64 c, .int .i64 a, .int .i64 p, .int .i64 q] w
    fun e w' => e = .returned (.int .i64 (partN c a p q)) ∧ w = w' := by
  have hle := partN_le c a p q hp hq
  have hf := cnt_le (c ^^^ a)
  unfold partN at hle ⊢
  generalize hcc : cnt (c ^^^ a) = f at hle hf ⊢
  have HC := Lib.hid hcc
  clear hcc
  obtain ⟨r, hr⟩ : ∃ r, q - p = r := ⟨_, rfl⟩
  obtain ⟨g, hg⟩ : ∃ g, 7 - f = g := ⟨_, rfl⟩
  have h1 : (q : Int) - (p : Int) = (r : Int) := by omega
  have h2 : (7 : Int) - (f : Int) = (g : Int) := by omega
  have hr10 : r ≤ 10 := by omega
  have hg7 : g ≤ 7 := by omega
  rw [hr, hg] at hle ⊢
  have K1 := Lib.hid (l9Power_any p f (by omega) (by omega))
  have K2 := Lib.hid (l9Power_any r g (by omega) (by omega))
  clear hr hg
  generalize p ^ f = x at hle K1 ⊢
  generalize r ^ g = y at hle K2 ⊢
  have hmi : ((x * y : Nat) : Int) = (x : Int) * (y : Int) := by simp
  have hi0 : (0 : Int) ≤ (x : Int) * (y : Int) := by omega
  have hi1 : (x : Int) * (y : Int) ≤ 10000000 := by omega
  rw [hmi]
  clear hmi hle
  have tA : True := trivial
  go_enter Try.func30, Try.ntmps30
  go_wp2_with (first | (go_at_call 43; refine (l2Far_any _ _ hc ha _).mono ?_; rw [HC.out]; rintro e w' ⟨rfl, rfl⟩) | (go_at_call 31; clear tA; refine (K1.out _).mono ?_; rintro e w' ⟨rfl, rfl⟩) | (go_at_call 31; refine (K2.out _).mono ?_; rintro e w' ⟨rfl, rfl⟩))
  go_ret
  exact ⟨rfl, rfl⟩
/-- The first k factors of a weight. -/
def wR (f p r : Nat) : Nat → Nat
  | 0 => 1
  | k + 1 => wR f p r k * (if k < f then p else r)
theorem wR_7 (f p r : Nat) (hf : f ≤ 7) : wR f p r 7 = p ^ f * r ^ (7 - f) := by
  rcases (by omega : f = 0 ∨ f = 1 ∨ f = 2 ∨ f = 3 ∨ f = 4 ∨ f = 5 ∨ f = 6 ∨ f = 7) with rfl | rfl | rfl | rfl | rfl | rfl | rfl | rfl <;> simp [wR, Nat.pow_succ, Nat.mul_assoc]
theorem wR_le (f p r k : Nat) (hp : p ≤ 10) (hr : r ≤ 10) : wR f p r k ≤ 10 ^ k := by
  induction k with
  | zero => exact Nat.le_refl _
  | succ k ih =>
    unfold wR
    rw [Nat.pow_succ]
    exact Nat.mul_le_mul ih (by split <;> omega)
theorem weight_any (c a p q : Nat) (hc : c < 128) (ha : a < 128) (hp : p ≤ q) (hq : q ≤ 10) (w : World) : Calls Try.prog 25 #[.int .i64 c, .int .i64 a, .int .i64 p, .int .i64 q] w
    fun e w' => e = .returned (.int .i64 (partN c a p q)) ∧ w = w' := by
  have hf := cnt_le (c ^^^ a)
  have hx := xor64 c a (by omega) (by omega)
  have hlt := xor_lt c a hc ha
  unfold partN
  rw [← wR_7 _ _ _ hf]
  generalize hd : c ^^^ a = d at hx hlt hf ⊢
  clear hd
  have K := Lib.hid (count_any d hlt)
  generalize cnt d = f at hf K ⊢
  obtain ⟨r, hr⟩ : ∃ r, q - p = r := ⟨_, rfl⟩
  have h1 : (q : Int) - (p : Int) = (r : Int) := by omega
  have hr10 : r ≤ 10 := by omega
  rw [hr]
  clear hr
  go_enter Try.func25, Try.ntmps25
  go_wp2_with (first | (go_at_call 41; refine (K.out _).mono ?_; rintro e w' ⟨rfl, rfl⟩))
  go_loop [10, 16] (fun o i => ∃ k m : Nat, k ≤ 7 ∧ i = .int .i64 k ∧ o = .int .i64 m ∧ Hid (wR f p r k = m)) (fun _ i => 7 - (intOf i).toNat)
  case atStart => exact ⟨0, 1, by omega, rfl, rfl, rfl⟩
  case round =>
    obtain ⟨k, m, hle, rfl, rfl, hm⟩ := hrel
    by_cases hlt : k < 7
    · have hb := wR_le f p r k (by omega) hr10
      have hb2 := Nat.pow_le_pow_right (n := 10) (by omega) (show k ≤ 6 by omega)
      rw [hm.out] at hb
      have hb3 : m ≤ 1000000 := by omega
      clear hb hb2
      by_cases hkf : k < f
      · have hb4 : m * p ≤ 1000000 * 10 := Nat.mul_le_mul hb3 (by omega)
        have hmi : ((m * p : Nat) : Int) = (m : Int) * (p : Int) := by simp
        have hi0 : (0 : Int) ≤ (m : Int) * (p : Int) := by omega
        have hi1 : (m : Int) * (p : Int) ≤ 10000000 := by omega
        have HM := Lib.hid hmi
        clear hmi hb4
        go_wp2
        go_round
        case rel => exact ⟨k + 1, m * p, by omega, by go_num, by rw [HM.out], (by show wR f p r (k + 1) = m * p; unfold wR; rw [hm.out, if_pos hkf])⟩
        case measure => simp [intOf]; omega
      · have hb4 : m * r ≤ 1000000 * 10 := Nat.mul_le_mul hb3 (by omega)
        have hmi : ((m * r : Nat) : Int) = (m : Int) * (r : Int) := by simp
        have hi0 : (0 : Int) ≤ (m : Int) * (r : Int) := by omega
        have hi1 : (m : Int) * (r : Int) ≤ 10000000 := by omega
        have HM := Lib.hid hmi
        clear hmi hb4
        go_wp2
        go_round
        case rel => exact ⟨k + 1, m * r, by omega, by go_num, by rw [HM.out], (by show wR f p r (k + 1) = m * r; unfold wR; rw [hm.out, if_neg hkf])⟩
        case measure => simp [intOf]; omega
    · have hkn : k = 7 := by omega
      subst hkn
      go_wp2
      go_ret
      exact ⟨ret_int (by rw [hm.out]), rfl⟩
theorem whole_any (q : Nat) (hq : q ≤ 10) (w : World) : Calls Try.prog 26 #[.int .i64 q] w fun e w' => e = .returned (.int .i64 ((q ^ 7 : Nat) : Int)) ∧ w = w' := by
  have K := weight_any 0 0 0 q (by omega) (by omega) (by omega) hq
  have e : partN 0 0 0 q = q ^ 7 := by
    have : cnt (0 ^^^ 0) = 0 := by decide
    unfold partN; rw [this]; simp
  rw [e] at K
  generalize q ^ 7 = R at K ⊢
  have HK := Lib.hid K
  clear K e
  go_enter Try.func26, Try.ntmps26
  go_wp2_with (first | (go_at_call 25; refine (HK.out _).mono ?_; rintro e w' ⟨rfl, rfl⟩))
  go_ret
  exact ⟨rfl, rfl⟩
end Go.Proofs.Ytpcmlfohblglaaa
