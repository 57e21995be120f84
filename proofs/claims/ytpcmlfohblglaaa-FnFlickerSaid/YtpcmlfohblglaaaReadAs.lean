/- Contracts of ChanceReadAs. -/
import Derived.Test.YtpcmlfohblglaaaFlick
import Derived.Test.YtpcmlfohblglaaaDigit
import Derived.Lib.Hide
import Derived.Deep.RegionWith
namespace Go.Proofs.Ytpcmlfohblglaaa
open Go.RowKit

/-- The digits are valid. -/
def twoDig (d a : Int) : Bool := inB 0 9 d && inB 0 9 a
/-- The digits and the flicker are valid. -/
def raOk (d a p q : Int) : Bool := twoDig d a && flickB p q
def raA (d a p q : Int) : Int := if raOk d a p q = true then ((partN (digC d.toNat) (digC a.toNat) p.toNat q.toNat / Nat.gcd (partN (digC d.toNat) (digC a.toNat) p.toNat q.toNat) (q.toNat ^ 7) : Nat) : Int) else 0
def raB (d a p q : Int) : Int := if raOk d a p q = true then ((q.toNat ^ 7 / Nat.gcd (partN (digC d.toNat) (digC a.toNat) p.toNat q.toNat) (q.toNat ^ 7) : Nat) : Int) else 0
theorem isDigit_any (x : Int) (w : World) : Calls Try.prog 33 #[.int .i64 x] w fun e w' => e = .returned (.bool (inB 0 9 x)) ∧ w = w' := by
  go_enter Try.func33, Try.ntmps33
  go_wp2_with (go_at_call 40; refine (within_any _ _ _ _).mono ?_; rintro e w' ⟨rfl, rfl⟩)
  go_ret
  exact ⟨rfl, rfl⟩
theorem cf_of_digits (D A : Nat) (p q : Int) (hD : D < 10) (hA : A < 10) : cfOk (digC D) (digC A) p q = raOk D A p q ∧ cfA (digC D) (digC A) p q = raA D A p q ∧ cfB (digC D) (digC A) p q = raB D A p q := by
  have h1 : cfOk (digC D) (digC A) p q = raOk D A p q := by
    have e1 : inB 0 9 (D : Int) = true := by rw [inB_iff]; omega
    have e2 : inB 0 9 (A : Int) = true := by rw [inB_iff]; omega
    unfold cfOk raOk twoDig
    rw [digC_in, digC_in, e1, e2]
  refine ⟨h1, ?_, ?_⟩
  · unfold cfA raA; rw [h1]; simp
  · unfold cfB raB; rw [h1]; simp
set_option maxHeartbeats 800000 in
theorem ChanceReadAsI_any (d a p q : Int) (w : World) : Calls Try.prog 10 #[.int .i64 d, .int .i64 a, .int .i64 p, .int .i64 q] w
    fun e w' => e = .returned (.tuple #[.agg #[.int .i64 (raA d a p q), .int .i64 (raB d a p q)], .bool (raOk d a p q)]) ∧ Below w.heap.size w w' := by
  by_cases hok : twoDig d a = true
  · have hok2 := hok
    simp only [twoDig, Bool.and_eq_true] at hok2
    obtain ⟨h1, h2⟩ := hok2
    have h1' := h1
    have h2' := h2
    rw [inB_iff] at h1' h2'
    obtain ⟨D, rfl⟩ := Int.eq_ofNat_of_zero_le h1'.1
    obtain ⟨A, rfl⟩ := Int.eq_ofNat_of_zero_le h2'.1
    have hD : D < 10 := by omega
    have hA : A < 10 := by omega
    obtain ⟨e1, e2, e3⟩ := cf_of_digits D A p q hD hA
    rw [← e1, ← e2, ← e3]
    have hdg1 := digAgg D hD
    have hdg2 := digAgg A hA
    clear h1' h2' hok e1 e2 e3
    have hA1 := @cellAlloc; have hA2 := @frozenAlloc; have hA3 := @setCellAlloc; go_enter Try.func10, Try.ntmps10
    go_wp2_with (first | (go_at_call 33; refine (isDigit_any _ _).mono ?_; rintro e w' ⟨rfl, rfl⟩))
    have hk0 := CellK_drew (CellK_new w (.int .i64 0) (.int .i64 0) 26)
    go_region_with ((first | (go_at_call 34; refine (digitCells_any _).mono ?_; rintro e w1 ⟨rfl, hb1⟩; have hk1 := CellK_keep hb1 (by assumption)) | (go_at_call 6; refine (ChanceFlickerI_any _ _ _ _ _).mono ?_; rintro e w2 ⟨rfl, hb2⟩; have hk2 := CellK_keep hb2 (by assumption); have hk3 := hk2; obtain ⟨c0, c1, f0, f1, hB, hbw⟩ := hk3)))
    all_goals
      go_wp2
      exact bodyPost_ret (v := .tuple #[.agg #[.int .i64 (cfA (digC D) (digC A) p q), .int .i64 (cfB (digC D) (digC A) p q)], .bool (cfOk (digC D) (digC A) p q)]) (by simp [results, Try.results10, go_sem, ↓IntWalk.iteOmega, c0, c1]) rfl ⟨rfl, by (repeat (first | assumption | exact Below.refl _ _ | refine belowThen ?_ (Go.Joins.below_alloc1 _ _) | apply Below.drew | refine belowThen ?_ (by assumption) | refine belowThen ?_ (Go.Joins.below_draws _ _ _) | refine Below.setCell ?_ (by first | exact Nat.le_refl _ | (simp; done) | (simp; omega)) _))⟩
  · rw [Bool.not_eq_true] at hok
    have hr : raOk d a p q = false := by unfold raOk; rw [hok]; rfl
    have eA : raA d a p q = 0 := by simp [raA, hr]
    have eB : raB d a p q = 0 := by simp [raB, hr]
    rw [eA, eB, hr]
    clear eA eB hr
    unfold twoDig at hok
    generalize hx1 : inB 0 9 d = b1 at hok
    generalize hx2 : inB 0 9 a = b2 at hok
    rcases b1 with _ | _ <;> rcases b2 with _ | _
    all_goals first
      | (exfalso; exact absurd hok (by decide))
      | (clear hok; have hA1 := @cellAlloc; have hA2 := @frozenAlloc; have hA3 := @setCellAlloc; go_enter Try.func10, Try.ntmps10; go_wp2_with (first | (go_at_call 33; refine (isDigit_any _ _).mono ?_; rintro e w' ⟨rfl, rfl⟩)); exact bodyPost_ret (v := .tuple #[.agg #[.int .i64 0, .int .i64 0], .bool false]) (by simp [results, Try.results10, go_sem, ↓IntWalk.iteOmega, *]) rfl ⟨rfl, by (repeat (first | assumption | exact Below.refl _ _ | refine belowThen ?_ (Go.Joins.below_alloc1 _ _) | apply Below.drew | refine belowThen ?_ (by assumption) | refine belowThen ?_ (Go.Joins.below_draws _ _ _) | refine Below.setCell ?_ (by first | exact Nat.le_refl _ | (simp; done) | (simp; omega)) _))⟩)
set_option maxHeartbeats 800000 in
theorem ChanceReadAsS_any (d a p q : Int) (w : World) : Calls Try.prog 11 #[.int .i64 d, .int .i64 a, .int .i64 p, .int .i64 q] w
    fun e w' => e = .returned (.tuple #[.agg #[.int .i64 (raA d a p q), .int .i64 (raB d a p q)], .bool (raOk d a p q)]) ∧ Below w.heap.size w w' := by
  by_cases hok : raOk d a p q = true
  · have hok2 := hok
    simp only [raOk, twoDig, Bool.and_eq_true] at hok2
    obtain ⟨⟨h1, h2⟩, h3⟩ := hok2
    have h1' := h1
    have h2' := h2
    rw [inB_iff] at h1' h2'
    obtain ⟨D, rfl⟩ := Int.eq_ofNat_of_zero_le h1'.1
    obtain ⟨A, rfl⟩ := Int.eq_ofNat_of_zero_le h2'.1
    obtain ⟨P', Q, rfl, rfl, hPQ, hQ1, hQ⟩ := flick_nat h3
    have hD : D < 10 := by omega
    have hA : A < 10 := by omega
    have eA : raA D A P' Q = ((partN (digC D) (digC A) P' Q / Nat.gcd (partN (digC D) (digC A) P' Q) (Q ^ 7) : Nat) : Int) := by simp [raA, hok]
    have eB : raB D A P' Q = ((Q ^ 7 / Nat.gcd (partN (digC D) (digC A) P' Q) (Q ^ 7) : Nat) : Int) := by simp [raB, hok]
    rw [eA, eB, hok]
    have hW := l9Power_any Q 7 hQ (by omega)
    have hN := Nat.le_trans (partN_le (digC D) (digC A) P' Q hPQ hQ) (show 10000000 ≤ 1000000000000 by omega)
    have hT := Nat.le_trans (pow_le7 Q 7 hQ (by omega)) (show 10000000 ≤ 1000000000000 by omega)
    have hT0 : 0 < Q ^ 7 := Nat.pow_pos (by omega)
    generalize Q ^ 7 = T at hW hT hT0 ⊢
    have HP := Lib.hid (fun w => l9Parts_any (digC D) (digC A) P' Q (digC_lt D) (digC_lt A) hPQ hQ w)
    generalize partN (digC D) (digC A) P' Q = N at HP hN ⊢
    have HW := Lib.hid hW
    clear hW eA eB hok h1' h2'
    have tA : True := trivial
    have hA1 := @cellAlloc; have hA2 := @frozenAlloc; have hA3 := @setCellAlloc; go_enter Try.func11, Try.ntmps11
    go_wp2_with (first | (go_at_call 35; refine (l1In_any _ _ _ _).mono ?_; rintro e w' ⟨rfl, rfl⟩) | (go_at_call 28; refine (l9Flicker_any _ _ _).mono ?_; rintro e w' ⟨rfl, rfl⟩) | (go_at_call 36; clear tA; refine (l2Digit_any D hD _).mono ?_; rintro e w1 ⟨rfl, hb1⟩; have hs1 := hb1.size; (try simp only [heapAlloc, heapSet] at hs1); have hc1 := cellRule hb1; have hf1 := frozenRule hb1) | (go_at_call 36; refine (l2Digit_any A hA _).mono ?_; rintro e w2 ⟨rfl, hb2⟩; have hs2 := hb2.size; (try simp only [heapAlloc, heapSet] at hs2); have hc2 := cellRule hb2; have hf2 := frozenRule hb2) | (go_at_call 30; refine (HP.out _).mono ?_; rintro e w' ⟨rfl, rfl⟩) | (go_at_call 31; refine (HW.out _).mono ?_; rintro e w' ⟨rfl, rfl⟩) | (go_at_call 29; refine (l9Cut_any N T hN hT hT0 _).mono ?_; rintro e w3 ⟨rfl, hb3⟩; have hs3 := hb3.size; (try simp only [heapAlloc, heapSet] at hs3); have hc3 := cellRule hb3; have hf3 := frozenRule hb3))
    exact bodyPost_ret (v := .tuple #[.agg #[.int .i64 ((N / Nat.gcd N T : Nat) : Int), .int .i64 ((T / Nat.gcd N T : Nat) : Int)], .bool true]) (by simp [results, Try.results11, go_sem, ↓IntWalk.iteOmega, *]) rfl ⟨rfl, by (repeat (first | assumption | exact Below.refl _ _ | refine belowThen ?_ (Go.Joins.below_alloc1 _ _) | apply Below.drew | refine belowThen ?_ (by assumption) | refine belowThen ?_ (Go.Joins.below_draws _ _ _) | refine Below.setCell ?_ (by first | exact Nat.le_refl _ | (simp; done) | (simp; omega)) _))⟩
  · rw [Bool.not_eq_true] at hok
    have eA : raA d a p q = 0 := by simp [raA, hok]
    have eB : raB d a p q = 0 := by simp [raB, hok]
    rw [eA, eB, hok]
    clear eA eB
    unfold raOk twoDig at hok
    generalize hx1 : inB 0 9 d = b1 at hok
    generalize hx2 : inB 0 9 a = b2 at hok
    generalize hx3 : flickB p q = b3 at hok
    rcases b1 with _ | _ <;> rcases b2 with _ | _ <;> rcases b3 with _ | _
    all_goals first
      | (exfalso; exact absurd hok (by decide))
      | (clear hok; have hA1 := @cellAlloc; have hA2 := @frozenAlloc; have hA3 := @setCellAlloc; go_enter Try.func11, Try.ntmps11; go_wp2_with (first | (go_at_call 35; refine (l1In_any _ _ _ _).mono ?_; rintro e w' ⟨rfl, rfl⟩) | (go_at_call 28; refine (l9Flicker_any _ _ _).mono ?_; rintro e w' ⟨rfl, rfl⟩)); exact bodyPost_ret (v := .tuple #[.agg #[.int .i64 0, .int .i64 0], .bool false]) (by simp [results, Try.results11, go_sem, ↓IntWalk.iteOmega, *]) rfl ⟨rfl, by (repeat (first | assumption | exact Below.refl _ _ | refine belowThen ?_ (Go.Joins.below_alloc1 _ _) | apply Below.drew | refine belowThen ?_ (by assumption) | refine belowThen ?_ (Go.Joins.below_draws _ _ _) | refine Below.setCell ?_ (by first | exact Nat.le_refl _ | (simp; done) | (simp; omega)) _))⟩)
end Go.Proofs.Ytpcmlfohblglaaa
