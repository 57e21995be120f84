/- Contracts of ChanceNoDigit. -/
import Derived.Test.YtpcmlfohblglaaaReadAs
import Derived.Lib.Hide
namespace Go.Proofs.Ytpcmlfohblglaaa
open Go.RowKit

def sumN (f : Nat → Nat) : Nat → Nat
  | 0 => 0
  | k + 1 => sumN f k + f k
theorem sumN_mono (f : Nat → Nat) {a b : Nat} (h : a ≤ b) : sumN f a ≤ sumN f b := by
  induction h with
  | refl => exact Nat.le_refl _
  | step _ ih => exact Nat.le_trans ih (Nat.le_add_right _ _)
theorem rest_all : ∀ d : Fin 10, ∀ q : Fin 11, ∀ p : Fin 11, p.val ≤ q.val → sumN (fun j => partN (digC d.val) (digC j) p.val q.val) 10 ≤ q.val ^ 7 := by decide +kernel
theorem rest_ok (d p q : Nat) (hd : d < 10) (hp : p ≤ q) (_hq1 : 1 ≤ q) (hq : q ≤ 10) : sumN (fun j => partN (digC d) (digC j) p q) 10 ≤ q ^ 7 :=
  rest_all ⟨d, hd⟩ ⟨q, by omega⟩ ⟨p, by omega⟩ hp
/-- What is left of q to the power of 7 beside all digits. -/
def restN (d p q : Nat) : Nat := q ^ 7 - sumN (fun j => partN (digC d) (digC j) p q) 10
def ndOk (d p q : Int) : Bool := inB 0 9 d && flickB p q
def ndA (d p q : Int) : Int := if ndOk d p q = true then ((restN d.toNat p.toNat q.toNat / Nat.gcd (restN d.toNat p.toNat q.toNat) (q.toNat ^ 7) : Nat) : Int) else 0
def ndB (d p q : Int) : Int := if ndOk d p q = true then ((q.toNat ^ 7 / Nat.gcd (restN d.toNat p.toNat q.toNat) (q.toNat ^ 7) : Nat) : Int) else 0
set_option maxHeartbeats 800000 in
theorem ChanceNoDigitS_any (d p q : Int) (w : World) : Calls Try.prog 14 #[.int .i64 d, .int .i64 p, .int .i64 q] w
    fun e w' => e = .returned (.tuple #[.agg #[.int .i64 (ndA d p q), .int .i64 (ndB d p q)], .bool (ndOk d p q)]) ∧ Below w.heap.size w w' := by
  by_cases hok : ndOk d p q = true
  · have hok2 := hok
    simp only [ndOk, Bool.and_eq_true] at hok2
    obtain ⟨h1, h3⟩ := hok2
    have h1' := h1
    rw [inB_iff] at h1'
    obtain ⟨D, rfl⟩ := Int.eq_ofNat_of_zero_le h1'.1
    obtain ⟨P', Q, rfl, rfl, hPQ, hQ1, hQ⟩ := flick_nat h3
    have hD : D < 10 := by omega
    have eA : ndA D P' Q = ((restN D P' Q / Nat.gcd (restN D P' Q) (Q ^ 7) : Nat) : Int) := by simp [ndA, hok]
    have eB : ndB D P' Q = ((Q ^ 7 / Nat.gcd (restN D P' Q) (Q ^ 7) : Nat) : Int) := by simp [ndB, hok]
    rw [eA, eB, hok]
    have hW := l9Power_any Q 7 hQ (by omega)
    have hrest : sumN (fun j => partN (digC D) (digC j) P' Q) 10 + restN D P' Q = Q ^ 7 := by have := rest_ok D P' Q hD hPQ hQ1 hQ; unfold restN; omega
    have hT7 := pow_le7 Q 7 hQ (by omega)
    have hT0 : 0 < Q ^ 7 := Nat.pow_pos (by omega)
    generalize restN D P' Q = R at hrest ⊢
    generalize Q ^ 7 = T at hW hrest hT7 hT0 ⊢
    have hR12 : R ≤ 1000000000000 := by omega
    have hT : T ≤ 1000000000000 := by omega
    have HW := Lib.hid hW
    have HR := Lib.hid hrest
    have hdg1 := digAgg D hD
    clear hW eA eB hok h1' hrest
    have hA1 := @cellAlloc; have hA2 := @frozenAlloc; have hA3 := @setCellAlloc; go_enter Try.func14, Try.ntmps14
    go_wp2_with (first | (go_at_call 35; refine (l1In_any _ _ _ _).mono ?_; rintro e w' ⟨rfl, rfl⟩) | (go_at_call 28; refine (l9Flicker_any _ _ _).mono ?_; rintro e w' ⟨rfl, rfl⟩) | (go_at_call 31; refine (HW.out _).mono ?_; rintro e w' ⟨rfl, rfl⟩))
    go_loopw [8, 9] (fun o i wr => ∃ k s t : Nat, k ≤ 10 ∧ i = .int .i64 k ∧ o = .int .i64 t ∧ Hid (sumN (fun j => partN (digC D) (digC j) P' Q) k = s) ∧ s + t = T ∧ Below (w.heap.size + 1) (w.alloc (.cells #[.int .i64 0, .int .i64 0] 26)) wr) (fun _ i _ => 10 - (intOf i).toNat)
    case atStart => exact ⟨0, 0, T, by omega, rfl, rfl, rfl, by omega, Below.refl _ _⟩
    case round =>
      obtain ⟨k, s, t, hle, rfl, rfl, hs, hst, hbw⟩ := hrel
      by_cases hlt : k < 10
      · have hm := sumN_mono (fun j => partN (digC D) (digC j) P' Q) (show k + 1 ≤ 10 by omega)
        have hR := HR.out
        have hsucc : sumN (fun j => partN (digC D) (digC j) P' Q) (k + 1) = sumN (fun j => partN (digC D) (digC j) P' Q) k + partN (digC D) (digC k) P' Q := rfl
        rw [hs.out] at hsucc
        rw [hsucc] at hm
        have HP := Lib.hid (fun w => l9Parts_any (digC D) (digC k) P' Q (digC_lt D) (digC_lt k) hPQ hQ w)
        generalize partN (digC D) (digC k) P' Q = x at HP hm hsucc
        have hxt : x ≤ t := by omega
        have ht7 : t ≤ 10000000 := by omega
        have HS := Lib.hid hsucc
        have hdg2 := digAgg k hlt
        clear hsucc hm hR
        have HST := Lib.hid hst
        clear hst
        have tA : True := trivial
        go_wp2_with (first | (go_at_call 36; clear tA; refine (l2Digit_any D hD _).mono ?_; rintro e w1 ⟨rfl, hb1⟩) | (go_at_call 36; refine (l2Digit_any k hlt _).mono ?_; rintro e w2 ⟨rfl, hb2⟩) | (go_at_call 30; refine (HP.out _).mono ?_; rintro e w' ⟨rfl, rfl⟩))
        have hbn := belowThen hb1 hb2
        have hst := HST.out
        go_roundw
        case rel => exact ⟨k + 1, s + x, t - x, by omega, by go_num, by go_num, HS.out, by omega, hbw.trans (hbn.mono (by have := hbw.size; simp at this; omega))⟩
        case measure => simp [intOf]; omega
      · have hk10 : k = 10 := by omega
        subst hk10
        have htR : t = R := by have := HR.out; rw [hs.out] at this; omega
        subst htR
        clear hs hst HR
        have hs9 := hbw.size
        simp only [heapAlloc] at hs9
        have hB : Below (w.alloc (.cells #[.int .i64 0, .int .i64 0] 26)).heap.size (w.alloc (.cells #[.int .i64 0, .int .i64 0] 26)) wr := by simpa using hbw
        have hc9 := cellRule hB
        have hf9 := frozenRule hB
        go_wp2_with (first | (go_at_call 31; refine (HW.out _).mono ?_; rintro e w' ⟨rfl, rfl⟩) | (go_at_call 29; refine (l9Cut_any t T hR12 hT hT0 _).mono ?_; rintro e w3 ⟨rfl, hb3⟩; have hs3 := hb3.size; (try simp only [heapAlloc, heapSet] at hs3); have hc3 := cellRule hb3; have hf3 := frozenRule hb3))
        exact bodyPost_ret (v := .tuple #[.agg #[.int .i64 ((t / Nat.gcd t T : Nat) : Int), .int .i64 ((T / Nat.gcd t T : Nat) : Int)], .bool true]) (by simp [results, Try.results14, go_sem, ↓IntWalk.iteOmega, *]) rfl ⟨rfl, by (repeat (first | assumption | exact Below.refl _ _ | refine belowThen ?_ (Go.Joins.below_alloc1 _ _) | apply Below.drew | refine belowThen ?_ (by assumption) | refine belowThen ?_ (Go.Joins.below_draws _ _ _) | refine Below.setCell ?_ (by first | exact Nat.le_refl _ | (simp; done) | (simp; omega)) _))⟩
  · rw [Bool.not_eq_true] at hok
    have eA : ndA d p q = 0 := by simp [ndA, hok]
    have eB : ndB d p q = 0 := by simp [ndB, hok]
    rw [eA, eB, hok]
    clear eA eB
    unfold ndOk at hok
    generalize hx1 : inB 0 9 d = b1 at hok
    generalize hx3 : flickB p q = b3 at hok
    rcases b1 with _ | _ <;> rcases b3 with _ | _
    all_goals first
      | (exfalso; exact absurd hok (by decide))
      | (clear hok; have hA1 := @cellAlloc; have hA2 := @frozenAlloc; have hA3 := @setCellAlloc; go_enter Try.func14, Try.ntmps14; go_wp2_with (first | (go_at_call 35; refine (l1In_any _ _ _ _).mono ?_; rintro e w' ⟨rfl, rfl⟩) | (go_at_call 28; refine (l9Flicker_any _ _ _).mono ?_; rintro e w' ⟨rfl, rfl⟩)); exact bodyPost_ret (v := .tuple #[.agg #[.int .i64 0, .int .i64 0], .bool false]) (by simp [results, Try.results14, go_sem, ↓IntWalk.iteOmega, *]) rfl ⟨rfl, by (repeat (first | assumption | exact Below.refl _ _ | refine belowThen ?_ (Go.Joins.below_alloc1 _ _) | apply Below.drew | refine belowThen ?_ (by assumption) | refine belowThen ?_ (Go.Joins.below_draws _ _ _) | refine Below.setCell ?_ (by first | exact Nat.le_refl _ | (simp; done) | (simp; omega)) _))⟩)
set_option maxHeartbeats 800000 in
theorem ChanceNoDigitI_any (d p q : Int) (w : World) : Calls Try.prog 13 #[.int .i64 d, .int .i64 p, .int .i64 q] w
    fun e w' => e = .returned (.tuple #[.agg #[.int .i64 (ndA d p q), .int .i64 (ndB d p q)], .bool (ndOk d p q)]) ∧ Below w.heap.size w w' := by
  by_cases hok : ndOk d p q = true
  · have hok2 := hok
    simp only [ndOk, Bool.and_eq_true] at hok2
    obtain ⟨h1, h3⟩ := hok2
    have h1' := h1
    rw [inB_iff] at h1'
    obtain ⟨D, rfl⟩ := Int.eq_ofNat_of_zero_le h1'.1
    obtain ⟨P', Q, rfl, rfl, hPQ, hQ1, hQ⟩ := flick_nat h3
    have hD : D < 10 := by omega
    have eA : ndA D P' Q = ((restN D P' Q / Nat.gcd (restN D P' Q) (Q ^ 7) : Nat) : Int) := by simp [ndA, hok]
    have eB : ndB D P' Q = ((Q ^ 7 / Nat.gcd (restN D P' Q) (Q ^ 7) : Nat) : Int) := by simp [ndB, hok]
    rw [eA, eB, hok]
    have hW := whole_any Q hQ
    have hrest : sumN (fun j => partN (digC D) (digC j) P' Q) 10 + restN D P' Q = Q ^ 7 := by have := rest_ok D P' Q hD hPQ hQ1 hQ; unfold restN; omega
    have hT7 := pow_le7 Q 7 hQ (by omega)
    have hT0 : 0 < Q ^ 7 := Nat.pow_pos (by omega)
    generalize restN D P' Q = R at hrest ⊢
    generalize Q ^ 7 = T at hW hrest hT7 hT0 ⊢
    have hR12 : R ≤ 1000000000000 := by omega
    have hT : T ≤ 1000000000000 := by omega
    have HW := Lib.hid hW
    have HR := Lib.hid hrest
    have hdg1 := digAgg D hD
    clear hW eA eB hok h1' hrest
    have hA1 := @cellAlloc; have hA2 := @frozenAlloc; have hA3 := @setCellAlloc; go_enter Try.func13, Try.ntmps13
    go_wp2_with (first | (go_at_call 33; refine (isDigit_any _ _).mono ?_; rintro e w' ⟨rfl, rfl⟩) | (go_at_call 23; refine (isFlicker_any _ _ _).mono ?_; rintro e w' ⟨rfl, rfl⟩) | (go_at_call 26; refine (HW.out _).mono ?_; rintro e w' ⟨rfl, rfl⟩) | (go_at_call 34; refine (digitCells_any _).mono ?_; rintro e w1 ⟨rfl, hb1⟩))
    go_loopw [8, 24] (fun o i wr => ∃ k s t : Nat, k ≤ 10 ∧ i = .int .i64 k ∧ o = .int .i64 t ∧ Hid (sumN (fun j => partN (digC D) (digC j) P' Q) k = s) ∧ s + t = T ∧ Below (w.heap.size + 1) (w.alloc (.cells #[.int .i64 0, .int .i64 0] 26)) wr) (fun _ i _ => 10 - (intOf i).toNat)
    case atStart => exact ⟨0, 0, T, by omega, rfl, rfl, rfl, by omega, by simpa using hb1⟩
    case round =>
      obtain ⟨k, s, t, hle, rfl, rfl, hs, hst, hbw⟩ := hrel
      by_cases hlt : k < 10
      · have hm := sumN_mono (fun j => partN (digC D) (digC j) P' Q) (show k + 1 ≤ 10 by omega)
        have hR := HR.out
        have hsucc : sumN (fun j => partN (digC D) (digC j) P' Q) (k + 1) = sumN (fun j => partN (digC D) (digC j) P' Q) k + partN (digC D) (digC k) P' Q := rfl
        rw [hs.out] at hsucc
        rw [hsucc] at hm
        have HP := Lib.hid (fun w => weight_any (digC D) (digC k) P' Q (digC_lt D) (digC_lt k) hPQ hQ w)
        generalize partN (digC D) (digC k) P' Q = x at HP hm hsucc
        have hxt : x ≤ t := by omega
        have ht7 : t ≤ 10000000 := by omega
        have HS := Lib.hid hsucc
        have hdg2 := digAgg k hlt
        clear hsucc hm hR
        have HST := Lib.hid hst
        clear hst
        go_wp2_with (first | (go_at_call 34; refine (digitCells_any _).mono ?_; rintro e w2 ⟨rfl, hbn⟩) | (go_at_call 25; refine (HP.out _).mono ?_; rintro e w' ⟨rfl, rfl⟩))
        have hst := HST.out
        go_roundw
        case rel => exact ⟨k + 1, s + x, t - x, by omega, by go_num, by go_num, HS.out, by omega, hbw.trans (hbn.mono (by have := hbw.size; simp at this; omega))⟩
        case measure => simp [intOf]; omega
      · have hk10 : k = 10 := by omega
        subst hk10
        have htR : t = R := by have := HR.out; rw [hs.out] at this; omega
        subst htR
        clear hs hst HR
        have hs9 := hbw.size
        simp only [heapAlloc] at hs9
        have hB : Below (w.alloc (.cells #[.int .i64 0, .int .i64 0] 26)).heap.size (w.alloc (.cells #[.int .i64 0, .int .i64 0] 26)) wr := by simpa using hbw
        have hc9 := cellRule hB
        have hf9 := frozenRule hB
        go_wp2_with (first | (go_at_call 26; refine (HW.out _).mono ?_; rintro e w' ⟨rfl, rfl⟩) | (go_at_call 24; refine (fraction_any t T hR12 hT hT0 _).mono ?_; rintro e w3 ⟨rfl, hb3⟩; have hs3 := hb3.size; (try simp only [heapAlloc, heapSet] at hs3); have hc3 := cellRule hb3; have hf3 := frozenRule hb3))
        exact bodyPost_ret (v := .tuple #[.agg #[.int .i64 ((t / Nat.gcd t T : Nat) : Int), .int .i64 ((T / Nat.gcd t T : Nat) : Int)], .bool true]) (by simp [results, Try.results13, go_sem, ↓IntWalk.iteOmega, *]) rfl ⟨rfl, by (repeat (first | assumption | exact Below.refl _ _ | refine belowThen ?_ (Go.Joins.below_alloc1 _ _) | apply Below.drew | refine belowThen ?_ (by assumption) | refine belowThen ?_ (Go.Joins.below_draws _ _ _) | refine Below.setCell ?_ (by first | exact Nat.le_refl _ | (simp; done) | (simp; omega)) _))⟩
  · rw [Bool.not_eq_true] at hok
    have eA : ndA d p q = 0 := by simp [ndA, hok]
    have eB : ndB d p q = 0 := by simp [ndB, hok]
    rw [eA, eB, hok]
    clear eA eB
    unfold ndOk at hok
    generalize hx1 : inB 0 9 d = b1 at hok
    generalize hx3 : flickB p q = b3 at hok
    rcases b1 with _ | _ <;> rcases b3 with _ | _
    all_goals first
      | (exfalso; exact absurd hok (by decide))
      | (clear hok; have hA1 := @cellAlloc; have hA2 := @frozenAlloc; have hA3 := @setCellAlloc; go_enter Try.func13, Try.ntmps13; go_wp2_with (first | (go_at_call 33; refine (isDigit_any _ _).mono ?_; rintro e w' ⟨rfl, rfl⟩) | (go_at_call 23; refine (isFlicker_any _ _ _).mono ?_; rintro e w' ⟨rfl, rfl⟩)); exact bodyPost_ret (v := .tuple #[.agg #[.int .i64 0, .int .i64 0], .bool false]) (by simp [results, Try.results13, go_sem, ↓IntWalk.iteOmega, *]) rfl ⟨rfl, by (repeat (first | assumption | exact Below.refl _ _ | refine belowThen ?_ (Go.Joins.below_alloc1 _ _) | apply Below.drew | refine belowThen ?_ (by assumption) | refine belowThen ?_ (Go.Joins.below_draws _ _ _) | refine Below.setCell ?_ (by first | exact Nat.le_refl _ | (simp; done) | (simp; omega)) _))⟩)
end Go.Proofs.Ytpcmlfohblglaaa
