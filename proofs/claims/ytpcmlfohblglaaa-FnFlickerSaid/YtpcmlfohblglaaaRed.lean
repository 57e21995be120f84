/- Fractions that are reduced, and their sums: plain law, no program. -/
import Derived.Test.YtpcmlfohblglaaaBase
namespace Go.Proofs.Ytpcmlfohblglaaa

/-- A fraction, reduced. -/
def red (a T : Nat) : Nat × Nat := (a / Nat.gcd a T, T / Nat.gcd a T)
/-- The sum of two fractions, reduced. -/
def plusN (x1 y1 x2 y2 : Nat) : Nat × Nat := red (x1 * (y2 / Nat.gcd y1 y2) + x2 * (y1 / Nat.gcd y1 y2)) (y1 / Nat.gcd y1 y2 * y2)
theorem red_unique {p q p' q' : Nat} (h : Nat.Coprime p q) (h' : Nat.Coprime p' q') (hx : p * q' = p' * q) (hq : 0 < q) : p = p' ∧ q = q' := by
  have h1 : q ∣ q' := (Nat.Coprime.symm h).dvd_of_dvd_mul_left (show q ∣ p * q' by rw [hx]; exact Nat.dvd_mul_left _ _)
  have h2 : q' ∣ q := (Nat.Coprime.symm h').dvd_of_dvd_mul_left (show q' ∣ p' * q by rw [← hx]; exact Nat.dvd_mul_left _ _)
  have e := Nat.dvd_antisymm h1 h2
  subst e
  exact ⟨Nat.eq_of_mul_eq_mul_right hq hx, rfl⟩
theorem red_eq {a T b S : Nat} (hT : 0 < T) (hS : 0 < S) (hx : a * S = b * T) : red a T = red b S := by
  have hg : 0 < Nat.gcd a T := Nat.gcd_pos_of_pos_right _ hT
  have hg' : 0 < Nat.gcd b S := Nat.gcd_pos_of_pos_right _ hS
  have c1 := Nat.coprime_div_gcd_div_gcd hg
  have c2 := Nat.coprime_div_gcd_div_gcd hg'
  have e1 := Nat.div_mul_cancel (Nat.gcd_dvd_left a T)
  have e2 := Nat.div_mul_cancel (Nat.gcd_dvd_right a T)
  have e3 := Nat.div_mul_cancel (Nat.gcd_dvd_left b S)
  have e4 := Nat.div_mul_cancel (Nat.gcd_dvd_right b S)
  unfold red
  generalize Nat.gcd a T = g at *
  generalize Nat.gcd b S = g' at *
  generalize a / g = p at *
  generalize T / g = q at *
  generalize b / g' = p' at *
  generalize S / g' = q' at *
  have hq : 0 < q := by
    rcases Nat.eq_zero_or_pos q with h | h
    · subst h; omega
    · exact h
  have hcross : p * q' = p' * q := by
    subst e1 e2 e3 e4
    have : (p * q') * (g * g') = (p' * q) * (g * g') := by
      calc (p * q') * (g * g') = p * g * (q' * g') := by ac_rfl
        _ = p' * g' * (q * g) := hx
        _ = (p' * q) * (g * g') := by ac_rfl
    exact Nat.eq_of_mul_eq_mul_right (Nat.mul_pos hg hg') this
  obtain ⟨h1, h2⟩ := red_unique c1 c2 hcross hq
  rw [h1, h2]
theorem red_cross (a T : Nat) : (red a T).1 * T = a * (red a T).2 := by
  have e1 := Nat.div_mul_cancel (Nat.gcd_dvd_left a T)
  have e2 := Nat.div_mul_cancel (Nat.gcd_dvd_right a T)
  show a / Nat.gcd a T * T = a * (T / Nat.gcd a T)
  generalize Nat.gcd a T = g at *
  generalize a / g = p at *
  generalize T / g = q at *
  subst e1 e2
  ac_rfl
theorem red_pos (a T : Nat) (hT : 0 < T) : 0 < (red a T).2 := Nat.div_pos (Nat.le_of_dvd hT (Nat.gcd_dvd_right a T)) (Nat.gcd_pos_of_pos_right _ hT)
theorem red_le (a T : Nat) : (red a T).1 ≤ a ∧ (red a T).2 ≤ T := ⟨Nat.div_le_self _ _, Nat.div_le_self _ _⟩
theorem plus_red (a b T : Nat) (hT : 0 < T) : plusN (red a T).1 (red a T).2 (red b T).1 (red b T).2 = red (a + b) T := by
  have ha := red_cross a T
  have hb := red_cross b T
  have hy1 := red_pos a T hT
  have hy2 := red_pos b T hT
  generalize (red a T).1 = x1 at *
  generalize (red a T).2 = y1 at *
  generalize (red b T).1 = x2 at *
  generalize (red b T).2 = y2 at *
  unfold plusN
  have hg : 0 < Nat.gcd y1 y2 := Nat.gcd_pos_of_pos_right _ hy2
  have e1 := Nat.div_mul_cancel (Nat.gcd_dvd_left y1 y2)
  have e2 := Nat.div_mul_cancel (Nat.gcd_dvd_right y1 y2)
  generalize Nat.gcd y1 y2 = g at *
  generalize y1 / g = u at *
  generalize y2 / g = v at *
  subst e1 e2
  have hu : 0 < u := Nat.pos_of_mul_pos_right hy1
  refine red_eq (Nat.mul_pos hu hy2) hT ?_
  rw [Nat.add_mul, Nat.add_mul]
  have h1 : x1 * v * T = a * (u * (v * g)) := by
    calc x1 * v * T = x1 * T * v := by ac_rfl
      _ = a * (u * g) * v := by rw [ha]
      _ = a * (u * (v * g)) := by ac_rfl
  have h2 : x2 * u * T = b * (u * (v * g)) := by
    calc x2 * u * T = x2 * T * u := by ac_rfl
      _ = b * (v * g) * u := by rw [hb]
      _ = b * (u * (v * g)) := by ac_rfl
  rw [h1, h2]
theorem red_self (T : Nat) (hT : 0 < T) : red T T = (1, 1) := by
  unfold red
  rw [Nat.gcd_self, Nat.div_self hT]
theorem red_nil (T : Nat) (hT : 0 < T) : red 0 T = (0, 1) := by
  unfold red
  rw [Nat.gcd_zero_left, Nat.zero_div, Nat.div_self hT]
end Go.Proofs.Ytpcmlfohblglaaa
