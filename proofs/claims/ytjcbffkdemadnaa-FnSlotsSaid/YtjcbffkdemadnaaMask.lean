/- Bars of a cell as a mask, and the letters of them: plain, and the contract of the function that tells the letters. -/
import Derived.Test.YtjcbffkdemadnaaBase
import Derived.Lib.Hide
import Derived.WalkSpells
import Derived.Deep.QuietTactic
import Derived.BigQuiet
namespace Go.Proofs.Ytjcbffkdemadnaa
open Go.RowKit

/-- The first k bars of which p says so, as a cell. -/
def maskP (p : Nat → Bool) : Nat → Nat
  | 0 => 0
  | k + 1 => if p k = true then maskP p k ||| 2 ^ k else maskP p k
theorem shl_fact (b : Nat) (hb : b < 7) : wrap64 (2 ^ b) = ((2 ^ b : Nat) : Int) := by
  have : ∀ x : Fin 7, wrap64 (2 ^ x.val) = ((2 ^ x.val : Nat) : Int) := by decide +kernel
  exact this ⟨b, hb⟩
theorem pow_lt (b : Nat) (hb : b < 7) : 2 ^ b < 128 := Nat.pow_lt_pow_right (a := 2) (n := 7) (by omega) hb
theorem maskP_lt (p : Nat → Bool) (k : Nat) : maskP p k < 2 ^ k := by
  induction k with
  | zero => simp [maskP]
  | succ k ih =>
    unfold maskP
    have h2 : 2 ^ k < 2 ^ (k + 1) := Nat.pow_lt_pow_right (by omega) (by omega)
    split
    · exact Nat.or_lt_two_pow (by omega) h2
    · omega
theorem maskP_bits : ∀ b0 b1 b2 b3 b4 b5 b6 : Bool, ∀ k : Fin 7,
    ((maskP (fun i => [b0, b1, b2, b3, b4, b5, b6].getD i false) 7) / 2 ^ k.val % 2 == 1) = [b0, b1, b2, b3, b4, b5, b6].getD k.val false := by decide +kernel
theorem maskP_congr (p q : Nat → Bool) (k : Nat) (h : ∀ i, i < k → p i = q i) : maskP p k = maskP q k := by
  induction k with
  | zero => rfl
  | succ k ih => unfold maskP; rw [ih fun i hi => h i (by omega), h k (by omega)]
theorem maskP_bit (p : Nat → Bool) (k : Nat) (hk : k < 7) : (maskP p 7 / 2 ^ k % 2 == 1) = p k := by
  have hq : ∀ i, i < 7 → p i = [p 0, p 1, p 2, p 3, p 4, p 5, p 6].getD i false := by
    intro i hi
    match i, hi with
    | 0, _ => rfl
    | 1, _ => rfl
    | 2, _ => rfl
    | 3, _ => rfl
    | 4, _ => rfl
    | 5, _ => rfl
    | 6, _ => rfl
  rw [maskP_congr p _ 7 hq, maskP_bits _ _ _ _ _ _ _ ⟨k, hk⟩, ← hq k hk]
theorem bit_fact (c k : Nat) (hc : c < 4611686018427387904) : bits .and .i64 ((c : Int) / 2 ^ k) 1 = ((c / 2 ^ k % 2 : Nat) : Int) := by
  have h1 : c / 2 ^ k ≤ c := Nat.div_le_self _ _
  have e : ((c : Int) / 2 ^ k) = ((c / 2 ^ k : Nat) : Int) := by simp
  rw [e, show (1 : Int) = ((1 : Nat) : Int) from rfl, and64 _ _ (by omega) (by omega), Nat.and_one_is_mod]
/-- The letters of the first k bars of which p says so. -/
def lettersP (p : Nat → Bool) : Nat → ByteArray
  | 0 => ⟨#[]⟩
  | k + 1 => if p k = true then lettersP p k ++ (⟨#[97, 98, 99, 100, 101, 102, 103]⟩ : ByteArray).extract k (k + 1) else lettersP p k
theorem lettersP_congr (p q : Nat → Bool) (k : Nat) (h : ∀ i, i < k → p i = q i) : lettersP p k = lettersP q k := by
  induction k with
  | zero => rfl
  | succ k ih => unfold lettersP; rw [ih fun i hi => h i (by omega), h k (by omega)]
theorem lettersP_size (p : Nat → Bool) (k : Nat) : (lettersP p k).size ≤ k := by
  induction k with
  | zero => exact Nat.le_refl _
  | succ k ih =>
    unfold lettersP
    split
    · rw [ByteArray.size_append, ByteArray.size_extract]; omega
    · omega
end Go.Proofs.Ytjcbffkdemadnaa
