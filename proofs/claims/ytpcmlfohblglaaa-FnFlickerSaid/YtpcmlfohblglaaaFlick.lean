/- Contracts of ChanceFlicker. -/
import Derived.Test.YtpcmlfohblglaaaChance
import Derived.Test.YtpcmlfohblglaaaFrac
import Derived.Lib.Hide
namespace Go.Proofs.Ytpcmlfohblglaaa
open Go.RowKit

/-- The cells and the flicker are valid. -/
def cfOk (c a p q : Int) : Bool := (inB 0 127 c && inB 0 127 a) && flickB p q
/-- The two parts of the chance that a cell is shown as another one. -/
def cfA (c a p q : Int) : Int := if cfOk c a p q = true then ((partN c.toNat a.toNat p.toNat q.toNat / Nat.gcd (partN c.toNat a.toNat p.toNat q.toNat) (q.toNat ^ 7) : Nat) : Int) else 0
def cfB (c a p q : Int) : Int := if cfOk c a p q = true then ((q.toNat ^ 7 / Nat.gcd (partN c.toNat a.toNat p.toNat q.toNat) (q.toNat ^ 7) : Nat) : Int) else 0
set_option maxHeartbeats 400000 in
theorem ChanceFlickerS_any (c a p q : Int) (w : World) : Calls Try.prog 7 #[.int .i64 c, .int .i64 a, .int .i64 p, .int .i64 q] w
    fun e w' => e = .returned (.tuple #[.agg #[.int .i64 (cfA c a p q), .int .i64 (cfB c a p q)], .bool (cfOk c a p q)]) ∧ Below w.heap.size w w' := by
  by_cases hok : cfOk c a p q = true
  · have hok2 := hok
    simp only [cfOk, Bool.and_eq_true] at hok2
    obtain ⟨⟨h1, h2⟩, h3⟩ := hok2
    have h1' := h1
    have h2' := h2
    rw [inB_iff] at h1' h2'
    obtain ⟨C, rfl⟩ := Int.eq_ofNat_of_zero_le h1'.1
    obtain ⟨A, rfl⟩ := Int.eq_ofNat_of_zero_le h2'.1
    obtain ⟨P', Q, rfl, rfl, hPQ, hQ1, hQ⟩ := flick_nat h3
    have hC : C < 128 := by omega
    have hA : A < 128 := by omega
    have eA : cfA C A P' Q = ((partN C A P' Q / Nat.gcd (partN C A P' Q) (Q ^ 7) : Nat) : Int) := by simp [cfA, hok]
    have eB : cfB C A P' Q = ((Q ^ 7 / Nat.gcd (partN C A P' Q) (Q ^ 7) : Nat) : Int) := by simp [cfB, hok]
    rw [eA, eB, hok]
    have hW := l9Power_any Q 7 hQ (by omega)
    have hN := Nat.le_trans (partN_le C A P' Q hPQ hQ) (show 10000000 ≤ 1000000000000 by omega)
    have hT := Nat.le_trans (pow_le7 Q 7 hQ (by omega)) (show 10000000 ≤ 1000000000000 by omega)
    have hT0 : 0 < Q ^ 7 := Nat.pow_pos (by omega)
    generalize Q ^ 7 = T at hW hT hT0 ⊢
    have HP := Lib.hid (fun w => l9Parts_any C A P' Q hC hA hPQ hQ w)
    generalize partN C A P' Q = N at HP hN ⊢
    have HW := Lib.hid hW
    clear hW eA eB hok h1' h2'
    have hA1 := @cellAlloc; have hA2 := @frozenAlloc; have hA3 := @setCellAlloc; go_enter Try.func7, Try.ntmps7
    go_wp2_with (first | (go_at_call 27; refine (l2Cell_any _ _).mono ?_; rintro e w' ⟨rfl, rfl⟩) | (go_at_call 28; refine (l9Flicker_any _ _ _).mono ?_; rintro e w' ⟨rfl, rfl⟩) | (go_at_call 30; refine (HP.out _).mono ?_; rintro e w' ⟨rfl, rfl⟩) | (go_at_call 31; refine (HW.out _).mono ?_; rintro e w' ⟨rfl, rfl⟩) | (go_at_call 29; refine (l9Cut_any N T hN hT hT0 _).mono ?_; rintro e w3 ⟨rfl, hb3⟩; have hs3 := hb3.size; (try simp only [heapAlloc, heapSet] at hs3); have hc3 := cellRule hb3; have hf3 := frozenRule hb3))
    exact bodyPost_ret (v := .tuple #[.agg #[.int .i64 ((N / Nat.gcd N T : Nat) : Int), .int .i64 ((T / Nat.gcd N T : Nat) : Int)], .bool true]) (by simp [results, Try.results7, go_sem, ↓IntWalk.iteOmega, *]) rfl ⟨rfl, by (repeat (first | assumption | exact Below.refl _ _ | refine belowThen ?_ (Go.Joins.below_alloc1 _ _) | apply Below.drew | refine belowThen ?_ (by assumption) | refine belowThen ?_ (Go.Joins.below_draws _ _ _) | refine Below.setCell ?_ (by first | exact Nat.le_refl _ | (simp; done) | (simp; omega)) _))⟩
  · rw [Bool.not_eq_true] at hok
    have eA : cfA c a p q = 0 := by simp [cfA, hok]
    have eB : cfB c a p q = 0 := by simp [cfB, hok]
    rw [eA, eB, hok]
    clear eA eB
    unfold cfOk at hok
    generalize hx1 : inB 0 127 c = b1 at hok
    generalize hx2 : inB 0 127 a = b2 at hok
    generalize hx3 : flickB p q = b3 at hok
    rcases b1 with _ | _ <;> rcases b2 with _ | _ <;> rcases b3 with _ | _
    all_goals first
      | (exfalso; exact absurd hok (by decide))
      | (clear hok; have hA1 := @cellAlloc; have hA2 := @frozenAlloc; have hA3 := @setCellAlloc; go_enter Try.func7, Try.ntmps7; go_wp2_with (first | (go_at_call 27; refine (l2Cell_any _ _).mono ?_; rintro e w' ⟨rfl, rfl⟩) | (go_at_call 28; refine (l9Flicker_any _ _ _).mono ?_; rintro e w' ⟨rfl, rfl⟩)); exact bodyPost_ret (v := .tuple #[.agg #[.int .i64 0, .int .i64 0], .bool false]) (by simp [results, Try.results7, go_sem, ↓IntWalk.iteOmega, *]) rfl ⟨rfl, by (repeat (first | assumption | exact Below.refl _ _ | refine belowThen ?_ (Go.Joins.below_alloc1 _ _) | apply Below.drew | refine belowThen ?_ (by assumption) | refine belowThen ?_ (Go.Joins.below_draws _ _ _) | refine Below.setCell ?_ (by first | exact Nat.le_refl _ | (simp; done) | (simp; omega)) _))⟩)
set_option maxHeartbeats 400000 in
theorem ChanceFlickerI_any (c a p q : Int) (w : World) : Calls Try.prog 6 #[.int .i64 c, .int .i64 a, .int .i64 p, .int .i64 q] w
    fun e w' => e = .returned (.tuple #[.agg #[.int .i64 (cfA c a p q), .int .i64 (cfB c a p q)], .bool (cfOk c a p q)]) ∧ Below w.heap.size w w' := by
  by_cases hok : cfOk c a p q = true
  · have hok2 := hok
    simp only [cfOk, Bool.and_eq_true] at hok2
    obtain ⟨⟨h1, h2⟩, h3⟩ := hok2
    have h1' := h1
    have h2' := h2
    rw [inB_iff] at h1' h2'
    obtain ⟨C, rfl⟩ := Int.eq_ofNat_of_zero_le h1'.1
    obtain ⟨A, rfl⟩ := Int.eq_ofNat_of_zero_le h2'.1
    obtain ⟨P', Q, rfl, rfl, hPQ, hQ1, hQ⟩ := flick_nat h3
    have hC : C < 128 := by omega
    have hA : A < 128 := by omega
    have eA : cfA C A P' Q = ((partN C A P' Q / Nat.gcd (partN C A P' Q) (Q ^ 7) : Nat) : Int) := by simp [cfA, hok]
    have eB : cfB C A P' Q = ((Q ^ 7 / Nat.gcd (partN C A P' Q) (Q ^ 7) : Nat) : Int) := by simp [cfB, hok]
    rw [eA, eB, hok]
    have hW := whole_any Q hQ
    have hN := Nat.le_trans (partN_le C A P' Q hPQ hQ) (show 10000000 ≤ 1000000000000 by omega)
    have hT := Nat.le_trans (pow_le7 Q 7 hQ (by omega)) (show 10000000 ≤ 1000000000000 by omega)
    have hT0 : 0 < Q ^ 7 := Nat.pow_pos (by omega)
    generalize Q ^ 7 = T at hW hT hT0 ⊢
    have HP := Lib.hid (fun w => weight_any C A P' Q hC hA hPQ hQ w)
    generalize partN C A P' Q = N at HP hN ⊢
    have HW := Lib.hid hW
    clear hW eA eB hok h1' h2'
    have hA1 := @cellAlloc; have hA2 := @frozenAlloc; have hA3 := @setCellAlloc; go_enter Try.func6, Try.ntmps6
    go_wp2_with (first | (go_at_call 22; refine (IsCell_any _ _).mono ?_; rintro e w' ⟨rfl, rfl⟩) | (go_at_call 23; refine (isFlicker_any _ _ _).mono ?_; rintro e w' ⟨rfl, rfl⟩) | (go_at_call 25; refine (HP.out _).mono ?_; rintro e w' ⟨rfl, rfl⟩) | (go_at_call 26; refine (HW.out _).mono ?_; rintro e w' ⟨rfl, rfl⟩) | (go_at_call 24; refine (fraction_any N T hN hT hT0 _).mono ?_; rintro e w3 ⟨rfl, hb3⟩; have hs3 := hb3.size; (try simp only [heapAlloc, heapSet] at hs3); have hc3 := cellRule hb3; have hf3 := frozenRule hb3))
    exact bodyPost_ret (v := .tuple #[.agg #[.int .i64 ((N / Nat.gcd N T : Nat) : Int), .int .i64 ((T / Nat.gcd N T : Nat) : Int)], .bool true]) (by simp [results, Try.results6, go_sem, ↓IntWalk.iteOmega, *]) rfl ⟨rfl, by (repeat (first | assumption | exact Below.refl _ _ | refine belowThen ?_ (Go.Joins.below_alloc1 _ _) | apply Below.drew | refine belowThen ?_ (by assumption) | refine belowThen ?_ (Go.Joins.below_draws _ _ _) | refine Below.setCell ?_ (by first | exact Nat.le_refl _ | (simp; done) | (simp; omega)) _))⟩
  · rw [Bool.not_eq_true] at hok
    have eA : cfA c a p q = 0 := by simp [cfA, hok]
    have eB : cfB c a p q = 0 := by simp [cfB, hok]
    rw [eA, eB, hok]
    clear eA eB
    unfold cfOk at hok
    generalize hx1 : inB 0 127 c = b1 at hok
    generalize hx2 : inB 0 127 a = b2 at hok
    generalize hx3 : flickB p q = b3 at hok
    rcases b1 with _ | _ <;> rcases b2 with _ | _ <;> rcases b3 with _ | _
    all_goals first
      | (exfalso; exact absurd hok (by decide))
      | (clear hok; have hA1 := @cellAlloc; have hA2 := @frozenAlloc; have hA3 := @setCellAlloc; go_enter Try.func6, Try.ntmps6; go_wp2_with (first | (go_at_call 22; refine (IsCell_any _ _).mono ?_; rintro e w' ⟨rfl, rfl⟩) | (go_at_call 23; refine (isFlicker_any _ _ _).mono ?_; rintro e w' ⟨rfl, rfl⟩)); exact bodyPost_ret (v := .tuple #[.agg #[.int .i64 0, .int .i64 0], .bool false]) (by simp [results, Try.results6, go_sem, ↓IntWalk.iteOmega, *]) rfl ⟨rfl, by (repeat (first | assumption | exact Below.refl _ _ | refine belowThen ?_ (Go.Joins.below_alloc1 _ _) | apply Below.drew | refine belowThen ?_ (by assumption) | refine belowThen ?_ (Go.Joins.below_draws _ _ _) | refine Below.setCell ?_ (by first | exact Nat.le_refl _ | (simp; done) | (simp; omega)) _))⟩)
end Go.Proofs.Ytpcmlfohblglaaa
