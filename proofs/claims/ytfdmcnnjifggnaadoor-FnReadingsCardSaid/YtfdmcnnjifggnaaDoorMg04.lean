/- Joined texts: RdYR, Contains, Mask, Parse. -/
import Derived.Test.YtfdmcnnjifggnaaDoorMg02
import Derived.Test.YtfdmcnnjifggnaaDoorMg03
import Derived.Test.YtfdmcnnjifggnaaDoorMg01
import Derived.Lib.Strings
import Derived.Lib.Slices
import Derived.Lib.Walk
import Derived.Lib.Bytealg
import Derived.Lib.Hide
import Derived.WalkSpells
import Derived.Deep.QuietTactic
import Derived.BigQuiet
namespace Go.Proofs.YtfdmcnnjifggnaaDoor
open Go.RowKit

theorem RdY_row {w : World} {ao : Option Addr} {len cap : Nat} {zs : List Int} (h : RowIn .u8 w ao len cap zs) : RdY w ao len := by
  rcases h with ⟨rfl, rfl, rfl, rfl⟩ | ⟨x, rfl, hl, hm, hz, hc, hw⟩
  · exact ⟨Nat.zero_le _, .inl rfl⟩
  · refine ⟨by omega, ?_⟩
    by_cases h0 : len = 0
    · exact .inl h0
    · right
      obtain ⟨b, off, rfl, hcell⟩ := ints_at hc (by omega)
      have h00 := hcell 0 (by omega)
      refine ⟨b, off, rfl, World.block_lt_of_cell? w _ h00, fun j hj => ?_⟩
      have hwf := hw (zs.getD j 0) (by rw [List.getD_eq_getElem?_getD, List.getElem?_eq_getElem (by omega)]; exact List.getElem_mem _)
      have hb : 0 ≤ zs.getD j 0 ∧ zs.getD j 0 ≤ 255 := by simpa [Lit.wf, IntKind.min, IntKind.max, IntKind.signed, IntKind.bits] using hwf
      obtain ⟨x, hx⟩ := Int.eq_ofNat_of_zero_le hb.1
      refine ⟨x, by omega, ?_⟩
      rw [hcell j (by omega), hx]
theorem capOf {w : World} {B n cap : Nat} {ao : Option Addr} {L : List Int} (h : ownsInts w B (.slice ao n cap) L) : L.length ≤ cap := by
  rcases own_cap h with h9 | h9
  · exact h9
  · rw [h9]; exact Nat.zero_le _
theorem big30 {k : Nat} (h : k ≤ 30) : k ≤ maxLen := by unfold maxLen; omega
end Go.Proofs.YtfdmcnnjifggnaaDoor

namespace Go.Proofs.YtfdmcnnjifggnaaDoor
open Go.RowKit

set_option maxHeartbeats 1000000 in
set_option maxRecDepth 100000 in
theorem stringslite_IndexByte (s : ByteArray) (c : Int) (w : World) :
    Calls Tryd.prog 73 #[.string s, .int .u8 c] w fun e w' => e = .returned (.int .i64 (Lib.indexByte s.data.toList c.toNat.toUInt8)) ∧ w = w' := by
  go_enter Tryd.func73, Tryd.ntmps73
  go_wp2
  rw [run_callFunc_extern Tryd.func85 (by kernel_rfl) (by kernel_rfl) (by kernel_rfl) (e := Extern.BytealgIndexByte.indexByte) (by kernel_rfl), Lib.run_indexByteString]
  simp only [Result.andThen]
  rw [Oper.upon_value]
  go_wp2
  go_ret
  exact ⟨rfl, rfl⟩
set_option maxHeartbeats 2000000 in
set_option maxRecDepth 100000 in
theorem stringslite_Index_one (s : ByteArray) (c : UInt8) (w : World) :
    Calls Tryd.prog 90 #[.string s, .string ⟨#[c]⟩] w fun e w' => e = .returned (.int .i64 (Lib.indexByte s.data.toList c)) ∧ w = w' := by
  go_enter Tryd.func90, Tryd.ntmps90
  go_wp2_with (go_at_call 73; refine (stringslite_IndexByte _ _ _).mono ?_; rintro e w' ⟨rfl, rfl⟩)
  · have h : ([c] == s.toList) = true := by assumption
    go_ret
    refine ⟨?_, rfl⟩
    have e : s.data.toList = [c] := by rw [← Lib.toList_data]; exact (beq_iff_eq.1 h).symm
    rw [e]
    simp [Lib.indexByte]
  · go_ret
    exact ⟨rfl, rfl⟩
set_option maxHeartbeats 1000000 in
theorem strings_Index_one (s : ByteArray) (c : UInt8) (w : World) :
    Calls Tryd.prog 84 #[.string s, .string ⟨#[c]⟩] w fun e w' => e = .returned (.int .i64 (Lib.indexByte s.data.toList c)) ∧ w = w' := by
  go_enter Tryd.func84, Tryd.ntmps84
  go_wp2_with (go_at_call 90; refine (stringslite_Index_one _ _ _).mono ?_; rintro e w' ⟨rfl, rfl⟩)
  go_ret
  exact ⟨rfl, rfl⟩
set_option maxHeartbeats 1000000 in
theorem strings_Contains_one (s : ByteArray) (c : UInt8) (w : World) :
    Calls Tryd.prog 71 #[.string s, .string ⟨#[c]⟩] w fun e w' => e = .returned (.bool (decide (0 ≤ Lib.indexByte s.data.toList c))) ∧ w = w' := by
  go_enter Tryd.func71, Tryd.ntmps71
  go_wp2_with (go_at_call 84; refine (strings_Index_one _ _ _).mono ?_; rintro e w' ⟨rfl, rfl⟩)
  go_ret
  exact ⟨rfl, rfl⟩
end Go.Proofs.YtfdmcnnjifggnaaDoor

namespace Go.Proofs.YtfdmcnnjifggnaaDoor
open Go.RowKit

/-- The first k bars of which p says so, as a cell. -/
def maskP (p : Nat → Bool) : Nat → Nat
  | 0 => 0
  | k + 1 => if p k = true then maskP p k ||| 2 ^ k else maskP p k
theorem shl_fact (b : Nat) (hb : b < 7) : wrap64 (2 ^ b) = ((2 ^ b : Nat) : Int) := by
  have : ∀ x : Fin 7, wrap64 (2 ^ x.val) = ((2 ^ x.val : Nat) : Int) := by decide +kernel
  exact this ⟨b, hb⟩
theorem pow_lt (b : Nat) (hb : b < 7) : 2 ^ b < 128 := Nat.pow_lt_pow_right (a := 2) (n := 7) (by omega) hb
theorem maskP_lt (p : Nat → Bool) (k : Nat) : maskP p k < 2 ^ k := by
  induction k with
  | zero => simp [maskP]
  | succ k ih =>
    unfold maskP
    have h2 : 2 ^ k < 2 ^ (k + 1) := Nat.pow_lt_pow_right (by omega) (by omega)
    split
    · exact Nat.or_lt_two_pow (by omega) h2
    · omega
theorem maskP_bits : ∀ b0 b1 b2 b3 b4 b5 b6 : Bool, ∀ k : Fin 7,
    ((maskP (fun i => [b0, b1, b2, b3, b4, b5, b6].getD i false) 7) / 2 ^ k.val % 2 == 1) = [b0, b1, b2, b3, b4, b5, b6].getD k.val false := by decide +kernel
theorem maskP_congr (p q : Nat → Bool) (k : Nat) (h : ∀ i, i < k → p i = q i) : maskP p k = maskP q k := by
  induction k with
  | zero => rfl
  | succ k ih => unfold maskP; rw [ih fun i hi => h i (by omega), h k (by omega)]
theorem maskP_bit (p : Nat → Bool) (k : Nat) (hk : k < 7) : (maskP p 7 / 2 ^ k % 2 == 1) = p k := by
  have hq : ∀ i, i < 7 → p i = [p 0, p 1, p 2, p 3, p 4, p 5, p 6].getD i false := by
    intro i hi
    match i, hi with
    | 0, _ => rfl
    | 1, _ => rfl
    | 2, _ => rfl
    | 3, _ => rfl
    | 4, _ => rfl
    | 5, _ => rfl
    | 6, _ => rfl
  rw [maskP_congr p _ 7 hq, maskP_bits _ _ _ _ _ _ _ ⟨k, hk⟩, ← hq k hk]
theorem bit_fact (c k : Nat) (hc : c < 4611686018427387904) : bits .and .i64 ((c : Int) / 2 ^ k) 1 = ((c / 2 ^ k % 2 : Nat) : Int) := by
  have h1 : c / 2 ^ k ≤ c := Nat.div_le_self _ _
  have e : ((c : Int) / 2 ^ k) = ((c / 2 ^ k : Nat) : Int) := by simp
  rw [e, show (1 : Int) = ((1 : Nat) : Int) from rfl, and64 _ _ (by omega) (by omega), Nat.and_one_is_mod]
/-- The letters of the first k bars of which p says so. -/
def lettersP (p : Nat → Bool) : Nat → ByteArray
  | 0 => ⟨#[]⟩
  | k + 1 => if p k = true then lettersP p k ++ (⟨#[97, 98, 99, 100, 101, 102, 103]⟩ : ByteArray).extract k (k + 1) else lettersP p k
theorem lettersP_congr (p q : Nat → Bool) (k : Nat) (h : ∀ i, i < k → p i = q i) : lettersP p k = lettersP q k := by
  induction k with
  | zero => rfl
  | succ k ih => unfold lettersP; rw [ih fun i hi => h i (by omega), h k (by omega)]
theorem lettersP_size (p : Nat → Bool) (k : Nat) : (lettersP p k).size ≤ k := by
  induction k with
  | zero => exact Nat.le_refl _
  | succ k ih =>
    unfold lettersP
    split
    · rw [ByteArray.size_append, ByteArray.size_extract]; omega
    · omega
theorem barsOf_any (c : Nat) (hc : c < 128) (w : World) : Calls Tryd.prog 72 #[.int .i64 c] w
    fun e w' => e = .returned (.string (lettersP (fun k => c / 2 ^ k % 2 == 1) 7)) ∧ w = w' := by
  go_enter Tryd.func72, Tryd.ntmps72
  go_wp2
  go_loop [3, 5] (fun s i => ∃ k : Nat, k ≤ 7 ∧ i = .int .i64 k ∧ s = .string (lettersP (fun k => c / 2 ^ k % 2 == 1) k)) (fun _ i => 7 - (intOf i).toNat)
  case atStart => exact ⟨0, by omega, rfl, rfl⟩
  case round =>
    obtain ⟨k, hle, rfl, rfl⟩ := hrel
    by_cases hlt : k < 7
    · have hbit := bit_fact c k (by omega)
      have hsz := lettersP_size (fun k => c / 2 ^ k % 2 == 1) k
      have hsucc : lettersP (fun k => c / 2 ^ k % 2 == 1) (k + 1) = if (c / 2 ^ k % 2 == 1) = true then lettersP (fun k => c / 2 ^ k % 2 == 1) k ++ (⟨#[97, 98, 99, 100, 101, 102, 103]⟩ : ByteArray).extract k (k + 1) else lettersP (fun k => c / 2 ^ k % 2 == 1) k := rfl
      have hcond : ((((c / 2 ^ k % 2 : Nat) : Int)) == 1) = (c / 2 ^ k % 2 == 1) := by rw [Bool.eq_iff_iff]; simp only [beq_iff_eq]; omega
      generalize lettersP (fun k => c / 2 ^ k % 2 == 1) k = S at hsz hsucc ⊢
      generalize (c / 2 ^ k % 2 : Nat) = bb at hbit hsucc hcond
      generalize hq : (bb == 1) = q at hsucc hcond
      clear hq
      have HS := Lib.hid hsucc
      clear hsucc
      rcases q with _ | _
      · go_wp2
        go_round
        case rel => exact ⟨k + 1, by omega, by go_num, by rw [HS.out]; rfl⟩
        case measure => simp [intOf]; omega
      · go_wp2
        go_round
        case rel => exact ⟨k + 1, by omega, by go_num, by rw [HS.out]; rfl⟩
        case measure => simp [intOf]; omega
    · have hk : k = 7 := by omega
      subst hk
      go_wp2
      go_ret
      exact ⟨rfl, rfl⟩

end Go.Proofs.YtfdmcnnjifggnaaDoor

namespace Go.Proofs.YtfdmcnnjifggnaaDoor
open Go.RowKit

/-- A text has the letter of a bar. -/
def hasL (s : ByteArray) (k : Nat) : Bool := decide (0 ≤ Lib.indexByte s.data.toList (UInt8.ofNat (97 + k)))
theorem letter_at (k : Nat) (hk : k < 7) : (⟨#[97, 98, 99, 100, 101, 102, 103]⟩ : ByteArray).extract k (k + 1) = ⟨#[UInt8.ofNat (97 + k)]⟩ := by
  match k, hk with
  | 0, _ => rfl
  | 1, _ => rfl
  | 2, _ => rfl
  | 3, _ => rfl
  | 4, _ => rfl
  | 5, _ => rfl
  | 6, _ => rfl
set_option maxHeartbeats 800000 in
/-- A text that is the letters of the bars that it has: its cell. -/
theorem ParseBars_good (s : ByteArray) (hs : lettersP (hasL s) 7 = s) (w : World) : Calls Tryd.prog 63 #[.string s] w
    fun e w' => e = .returned (.tuple #[.int .i64 (maskP (hasL s) 7), .bool true]) ∧ w = w' := by
  have hS : lettersP (fun k => maskP (hasL s) 7 / 2 ^ k % 2 == 1) 7 = s := by
    rw [lettersP_congr _ (hasL s) 7 fun i hi => maskP_bit (hasL s) i hi, hs]
  have HB := Lib.hid (fun W => barsOf_any (maskP (hasL s) 7) (maskP_lt _ 7) W)
  rw [hS] at HB
  have hq : ∀ k, k < 7 → hasL s k = decide (0 ≤ Lib.indexByte s.data.toList (UInt8.ofNat (97 + k))) := fun _ _ => rfl
  have HQ := Lib.hid hq
  clear hS hs hq
  generalize hasL s = p at HB HQ ⊢
  go_enter Tryd.func63, Tryd.ntmps63
  go_wp2
  go_loop [4, 6] (fun c i => ∃ k : Nat, k ≤ 7 ∧ i = .int .i64 k ∧ c = .int .i64 (maskP p k)) (fun _ i => 7 - (intOf i).toNat)
  case atStart => exact ⟨0, by omega, rfl, rfl⟩
  case round =>
    obtain ⟨k, hle, rfl, rfl⟩ := hrel
    by_cases hlt : k < 7
    · have hs := shl_fact k hlt
      have hp := pow_lt k hlt
      have hM := Nat.lt_of_lt_of_le (maskP_lt p k) (Nat.pow_le_pow_right (n := 2) (by omega) hle)
      have hx := or64 (maskP p k) (2 ^ k) (by omega) (by omega)
      have hsucc : maskP p (k + 1) = if p k = true then maskP p k ||| 2 ^ k else maskP p k := rfl
      have HC := Lib.hid (fun W => strings_Contains_one s (UInt8.ofNat (97 + k)) W)
      rw [← HQ.out k hlt, ← letter_at k hlt] at HC
      generalize maskP p k = M at hM hx hsucc ⊢
      generalize (2 ^ k : Nat) = m at *
      generalize p k = q at hsucc HC
      have HS := Lib.hid hsucc
      clear hsucc
      rcases q with _ | _
      · go_wp2_with (first | (go_at_call 71; refine (HC.out _).mono ?_; rintro e w' ⟨rfl, rfl⟩))
        go_round
        case rel => exact ⟨k + 1, by omega, by go_num, by rw [HS.out]; rfl⟩
        case measure => simp [intOf]; omega
      · go_wp2_with (first | (go_at_call 71; refine (HC.out _).mono ?_; rintro e w' ⟨rfl, rfl⟩))
        go_round
        case rel => exact ⟨k + 1, by omega, by go_num, by rw [HS.out]; rfl⟩
        case measure => simp [intOf]; omega
    · have hk : k = 7 := by omega
      subst hk
      go_wp2_with (first | (go_at_call 72; refine (HB.out _).mono ?_; rintro e w' ⟨rfl, rfl⟩))
      go_ret2
      exact ⟨rfl, rfl⟩
end Go.Proofs.YtfdmcnnjifggnaaDoor
