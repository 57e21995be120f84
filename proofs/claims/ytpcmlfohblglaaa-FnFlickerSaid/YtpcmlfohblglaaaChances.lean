/- Contracts of ChancesFor. -/
import Derived.Test.YtpcmlfohblglaaaChance
import Derived.Test.YtpcmlfohblglaaaFrac
import Derived.Test.YtpcmlfohblglaaaDigit
import Derived.Test.YtpcmlfohblglaaaPairs
import Derived.Lib.Hide
namespace Go.Proofs.Ytpcmlfohblglaaa
open Go.RowKit

/-- The sum of the weights of the first k digits at what is shown. -/
def total (c p q : Nat) : Nat → Nat
  | 0 => 0
  | k + 1 => total c p q k + partN (digC k) c p q
theorem total_le (c p q k : Nat) (hp : p ≤ q) (hq : q ≤ 10) : total c p q k ≤ 10000000 * k := by
  induction k with
  | zero => exact Nat.le_refl _
  | succ k ih => have := partN_le (digC k) c p q hp hq; unfold total; omega
/-- The chances of the first k digits, parts one behind the other. -/
def fracsP (c p q t : Nat) : Nat → List Int
  | 0 => []
  | k + 1 => fracsP c p q t k ++ [((partN (digC k) c p q / Nat.gcd (partN (digC k) c p q) t : Nat) : Int), ((t / Nat.gcd (partN (digC k) c p q) t : Nat) : Int)]
def cfvOk (c p q : Int) : Bool := inB 0 127 c && flickB p q
def cfoOk (c p q : Int) : Bool := cfvOk c p q && decide (0 < total c.toNat p.toNat q.toNat 10)
def cfN (c p q : Int) : Nat := if cfoOk c p q = true then 10 else 0
def cfL (c p q : Int) : List Int := if cfoOk c p q = true then fracsP c.toNat p.toNat q.toNat (total c.toNat p.toNat q.toNat 10) 10 else []
/-- A slice of pairs of the call's own, and a bool, are returned. -/
def RetPairsB (F : List Int) (n : Nat) (ok : Bool) (w : World) (e : Ending) (w' : World) : Prop := ∃ ao cap, e = .returned (.tuple #[.slice ao n cap, .bool ok]) ∧ ownsPairs w' w.heap.size (.slice ao n cap) n F ∧ Below w.heap.size w w'
set_option maxHeartbeats 1600000 in
theorem ChancesForS_any (c p q : Int) (w : World) : Calls Try.prog 17 #[.int .i64 c, .int .i64 p, .int .i64 q] w (RetPairsB (cfL c p q) (cfN c p q) (cfoOk c p q) w) := by
  by_cases hok : cfvOk c p q = true
  · have hok2 := hok
    simp only [cfvOk, Bool.and_eq_true] at hok2
    obtain ⟨h1, h3⟩ := hok2
    have h1' := h1
    rw [inB_iff] at h1'
    obtain ⟨C, rfl⟩ := Int.eq_ofNat_of_zero_le h1'.1
    obtain ⟨P', Q, rfl, rfl, hPQ, hQ1, hQ⟩ := flick_nat h3
    have hC : C < 128 := by omega
    have hTl := total_le C P' Q 10 hPQ hQ
    have eo : cfoOk (C : Int) (P' : Int) (Q : Int) = decide (0 < total C P' Q 10) := by simp [cfoOk, hok]
    have en : cfN (C : Int) (P' : Int) (Q : Int) = if 0 < total C P' Q 10 then 10 else 0 := by
      unfold cfN; rw [eo]; by_cases h : 0 < total C P' Q 10 <;> simp [h]
    have el : cfL (C : Int) (P' : Int) (Q : Int) = if 0 < total C P' Q 10 then fracsP C P' Q (total C P' Q 10) 10 else [] := by
      unfold cfL; rw [eo]; by_cases h : 0 < total C P' Q 10 <;> simp [h]
    rw [eo, en, el]
    generalize hT : total C P' Q 10 = T at hTl ⊢
    have HT := Lib.hid hT
    clear hT eo en el hok h1'
    obtain ⟨N, hN⟩ : ∃ N, (if 0 < T then 10 else 0) = N := ⟨_, rfl⟩
    obtain ⟨F, hF⟩ : ∃ F, (if 0 < T then fracsP C P' Q T 10 else []) = F := ⟨_, rfl⟩
    obtain ⟨ok, hO⟩ : ∃ ok, decide (0 < T) = ok := ⟨_, rfl⟩
    rw [hN, hF, hO]
    have HN := Lib.hid hN
    have HF := Lib.hid hF
    have HO := Lib.hid hO
    clear hN hF hO
    have hA1 := @cellAlloc; have hA2 := @frozenAlloc; have hA3 := @setCellAlloc; go_enter Try.func17, Try.ntmps17
    go_wp2_with (first | (go_at_call 27; refine (l2Cell_any _ _).mono ?_; rintro e w' ⟨rfl, rfl⟩) | (go_at_call 28; refine (l9Flicker_any _ _ _).mono ?_; rintro e w' ⟨rfl, rfl⟩))
    go_loopw [9, 10] (fun o i wr => ∃ k s : Nat, k ≤ 10 ∧ i = .int .i64 k ∧ o = .int .i64 s ∧ Hid (total C P' Q k = s) ∧ s ≤ 100000000 ∧ Below w.heap.size w wr) (fun _ i _ => 10 - (intOf i).toNat)
    case atStart => exact ⟨0, 0, by omega, rfl, rfl, rfl, by omega, (Go.Joins.below_alloc1 _ _)⟩
    case round =>
      obtain ⟨k, s, hle, rfl, rfl, hs, hs8, hbw⟩ := hrel
      by_cases hlt : k < 10
      · have hdg := digAgg k hlt
        have hsucc : total C P' Q (k + 1) = total C P' Q k + partN (digC k) C P' Q := rfl
        have hl := total_le C P' Q (k + 1) hPQ hQ
        rw [hs.out] at hsucc
        rw [hsucc] at hl
        have HP := Lib.hid (fun w => l9Parts_any (digC k) C P' Q (digC_lt k) hC hPQ hQ w)
        generalize partN (digC k) C P' Q = x at HP hl hsucc
        have HS := Lib.hid hsucc
        have hl8 : s + x ≤ 100000000 := by omega
        clear hsucc hl
        go_wp2_with (first | (go_at_call 36; refine (l2Digit_any k hlt _).mono ?_; rintro e w2 ⟨rfl, hbn⟩) | (go_at_call 30; refine (HP.out _).mono ?_; rintro e w' ⟨rfl, rfl⟩))
        go_roundw
        case rel => exact ⟨k + 1, s + x, by omega, by go_num, by go_num, HS.out, by omega, belowThen hbw hbn⟩
        case measure => simp [intOf]; omega
      · have hk10 : k = 10 := by omega
        subst hk10
        rw [show ((10 : Nat) : Int) = 10 from rfl]
        have hsT : s = T := by have := HT.out; rw [hs.out] at this; exact this
        subst hsT
        clear hs
        have hbW := hbw
        clear hbw
        by_cases hpos : 0 < s
        · have hp1 : (1 : Int) ≤ (s : Int) := by omega
          have hN := HN.out
          have hF := HF.out
          have hO := HO.out
          rw [if_pos hpos] at hN hF
          rw [show decide (0 < s) = true by simp [hpos]] at hO
          subst hN hF hO
          clear hTl HN HF HO HT
          go_wp2_with fail
          go_loopw [8, 11] (fun o i wr => ∃ k : Nat, k ≤ 10 ∧ i = .int .i64 k ∧ ownsPairs wr w.heap.size o k (fracsP C P' Q s k) ∧ Below w.heap.size w wr) (fun _ i _ => 10 - (intOf i).toNat)
          case atStart => exact ⟨0, by omega, rfl, ownsPairs_zero _ _ _, hbW⟩
          case round =>
            obtain ⟨k, hle, rfl, hown, hbw⟩ := hrel
            by_cases hlt : k < 10
            · have hdg := digAgg k hlt
              have hsucc : fracsP C P' Q s (k + 1) = fracsP C P' Q s k ++ [((partN (digC k) C P' Q / Nat.gcd (partN (digC k) C P' Q) s : Nat) : Int), ((s / Nat.gcd (partN (digC k) C P' Q) s : Nat) : Int)] := rfl
              have hx := Nat.le_trans (partN_le (digC k) C P' Q hPQ hQ) (show 10000000 ≤ 1000000000000 by omega)
              have HP := Lib.hid (fun w => l9Parts_any (digC k) C P' Q (digC_lt k) hC hPQ hQ w)
              generalize partN (digC k) C P' Q = x at HP hsucc hx
              have HS := Lib.hid hsucc
              clear hsucc hbW
              go_wp2_with (first | (go_at_call 36; refine (l2Digit_any k hlt _).mono ?_; rintro e w2 ⟨rfl, hb2⟩) | (go_at_call 30; refine (HP.out _).mono ?_; rintro e w' ⟨rfl, rfl⟩) | (go_at_call 29; refine (l9Cut_any x s hx (by omega) hpos _).mono ?_; rintro e w4 ⟨rfl, hb4⟩; have hb24 : Below w.heap.size wr w4 := (hb2.mono hbw.size).trans (hb4.mono (Nat.le_trans hbw.size hb2.size)); have hown4 := ownsPairs_below hown (belowThen hb2 hb4) (Nat.le_refl _); have hz4 := Nat.le_trans hbw.size hb24.size) | (at_builtin; refine wpAppendPair w4 (by rfl) _ _ (by rfl) w.heap.size _ k _ (by rfl) hown4 _ _ _ (by rfl) (by omega) hz4 ?_; intro ao cap w5 hown5 hb5))
              go_roundw
              case rel => exact ⟨k + 1, by omega, by go_num, by rw [HS.out, Int.natCast_ediv, Int.natCast_ediv]; exact hown5, hbw.trans (hb24.trans hb5)⟩
              case measure => simp [intOf]; omega
            · have hk10 : k = 10 := by omega
              subst hk10
              obtain ⟨ao, cap, rfl, _⟩ := ownsPairs_shape hown
              clear hbW
              go_wp2
              go_ret2
              exact ⟨ao, cap, rfl, hown, hbw⟩
        · have hs0 : s = 0 := by omega
          subst hs0
          have hN := HN.out
          have hF := HF.out
          have hO := HO.out
          rw [if_neg hpos] at hN hF
          rw [show decide (0 < 0) = false by simp] at hO
          subst hN hF hO
          clear hTl HN HF HO HT
          go_wp2
          go_loopw [8, 11] (fun o i wr => i = .int .i64 0 ∧ ownsPairs wr w.heap.size o 0 [] ∧ Below w.heap.size w wr) (fun _ i _ => 10 - (intOf i).toNat)
          case atStart => exact ⟨rfl, ownsPairs_zero _ _ _, hbW⟩
          case round =>
            obtain ⟨rfl, hown, hbw⟩ := hrel
            obtain ⟨ao, cap, rfl, _⟩ := ownsPairs_shape hown
            clear hbW
            go_wp2
            go_ret2
            exact ⟨ao, cap, rfl, hown, hbw⟩
  · rw [Bool.not_eq_true] at hok
    have eo : cfoOk c p q = false := by simp [cfoOk, hok]
    have en : cfN c p q = 0 := by simp [cfN, eo]
    have el : cfL c p q = [] := by simp [cfL, eo]
    rw [en, el, eo]
    clear en el eo
    unfold cfvOk at hok
    generalize hx1 : inB 0 127 c = b1 at hok
    generalize hx3 : flickB p q = b3 at hok
    rcases b1 with _ | _ <;> rcases b3 with _ | _
    all_goals first
      | (exfalso; exact absurd hok (by decide))
      | (clear hok; have hA1 := @cellAlloc; have hA2 := @frozenAlloc; have hA3 := @setCellAlloc; go_enter Try.func17, Try.ntmps17; go_wp2_with (first | (go_at_call 27; refine (l2Cell_any _ _).mono ?_; rintro e w' ⟨rfl, rfl⟩) | (go_at_call 28; refine (l9Flicker_any _ _ _).mono ?_; rintro e w' ⟨rfl, rfl⟩)); go_ret2; exact ⟨_, _, rfl, ownsPairs_zero _ _ _, by (repeat (first | assumption | exact Below.refl _ _ | refine belowThen ?_ (Go.Joins.below_alloc1 _ _) | apply Below.drew | refine belowThen ?_ (by assumption) | refine belowThen ?_ (Go.Joins.below_draws _ _ _) | refine Below.setCell ?_ (by first | exact Nat.le_refl _ | (simp; done) | (simp; omega)) _))⟩)
set_option maxHeartbeats 1600000 in
theorem ChancesForI_any (c p q : Int) (w : World) : Calls Try.prog 16 #[.int .i64 c, .int .i64 p, .int .i64 q] w (RetPairsB (cfL c p q) (cfN c p q) (cfoOk c p q) w) := by
  by_cases hok : cfvOk c p q = true
  · have hok2 := hok
    simp only [cfvOk, Bool.and_eq_true] at hok2
    obtain ⟨h1, h3⟩ := hok2
    have h1' := h1
    rw [inB_iff] at h1'
    obtain ⟨C, rfl⟩ := Int.eq_ofNat_of_zero_le h1'.1
    obtain ⟨P', Q, rfl, rfl, hPQ, hQ1, hQ⟩ := flick_nat h3
    have hC : C < 128 := by omega
    have hTl := total_le C P' Q 10 hPQ hQ
    have eo : cfoOk (C : Int) (P' : Int) (Q : Int) = decide (0 < total C P' Q 10) := by simp [cfoOk, hok]
    have en : cfN (C : Int) (P' : Int) (Q : Int) = if 0 < total C P' Q 10 then 10 else 0 := by
      unfold cfN; rw [eo]; by_cases h : 0 < total C P' Q 10 <;> simp [h]
    have el : cfL (C : Int) (P' : Int) (Q : Int) = if 0 < total C P' Q 10 then fracsP C P' Q (total C P' Q 10) 10 else [] := by
      unfold cfL; rw [eo]; by_cases h : 0 < total C P' Q 10 <;> simp [h]
    rw [eo, en, el]
    generalize hT : total C P' Q 10 = T at hTl ⊢
    have HT := Lib.hid hT
    clear hT eo en el hok h1'
    obtain ⟨N, hN⟩ : ∃ N, (if 0 < T then 10 else 0) = N := ⟨_, rfl⟩
    obtain ⟨F, hF⟩ : ∃ F, (if 0 < T then fracsP C P' Q T 10 else []) = F := ⟨_, rfl⟩
    obtain ⟨ok, hO⟩ : ∃ ok, decide (0 < T) = ok := ⟨_, rfl⟩
    rw [hN, hF, hO]
    have HN := Lib.hid hN
    have HF := Lib.hid hF
    have HO := Lib.hid hO
    clear hN hF hO
    have hA1 := @cellAlloc; have hA2 := @frozenAlloc; have hA3 := @setCellAlloc; go_enter Try.func16, Try.ntmps16
    go_wp2_with (first | (go_at_call 22; refine (IsCell_any _ _).mono ?_; rintro e w' ⟨rfl, rfl⟩) | (go_at_call 23; refine (isFlicker_any _ _ _).mono ?_; rintro e w' ⟨rfl, rfl⟩) | (go_at_call 34; refine (digitCells_any _).mono ?_; rintro e w1 ⟨rfl, hb1⟩))
    go_loopw [8, 24] (fun o i wr => ∃ k s : Nat, k ≤ 10 ∧ i = .int .i64 k ∧ o = .int .i64 s ∧ Hid (total C P' Q k = s) ∧ s ≤ 100000000 ∧ Below w.heap.size w wr) (fun _ i _ => 10 - (intOf i).toNat)
    case atStart => exact ⟨0, 0, by omega, rfl, rfl, rfl, by omega, hb1⟩
    case round =>
      obtain ⟨k, s, hle, rfl, rfl, hs, hs8, hbw⟩ := hrel
      by_cases hlt : k < 10
      · have hdg := digAgg k hlt
        have hsucc : total C P' Q (k + 1) = total C P' Q k + partN (digC k) C P' Q := rfl
        have hl := total_le C P' Q (k + 1) hPQ hQ
        rw [hs.out] at hsucc
        rw [hsucc] at hl
        have HP := Lib.hid (fun w => weight_any (digC k) C P' Q (digC_lt k) hC hPQ hQ w)
        generalize partN (digC k) C P' Q = x at HP hl hsucc
        have HS := Lib.hid hsucc
        have hl8 : s + x ≤ 100000000 := by omega
        clear hsucc hl
        go_wp2_with (first | (go_at_call 25; refine (HP.out _).mono ?_; rintro e w' ⟨rfl, rfl⟩))
        go_roundw
        case rel => exact ⟨k + 1, s + x, by omega, by go_num, by go_num, HS.out, by omega, hbw⟩
        case measure => simp [intOf]; omega
      · have hk10 : k = 10 := by omega
        subst hk10
        rw [show ((10 : Nat) : Int) = 10 from rfl]
        have hsT : s = T := by have := HT.out; rw [hs.out] at this; exact this
        subst hsT
        clear hs
        have hbW := hbw
        clear hbw
        by_cases hpos : 0 < s
        · have hp1 : (1 : Int) ≤ (s : Int) := by omega
          have hN := HN.out
          have hF := HF.out
          have hO := HO.out
          rw [if_pos hpos] at hN hF
          rw [show decide (0 < s) = true by simp [hpos]] at hO
          subst hN hF hO
          clear hTl HN HF HO HT
          go_wp2_with (first | (go_at_call 34; refine (digitCells_any _).mono ?_; rintro e w6 ⟨rfl, hb6⟩; have hbW6 := belowThen hbW hb6))
          go_loopw [11, 38] (fun o i wr => ∃ k : Nat, k ≤ 10 ∧ i = .int .i64 k ∧ ownsPairs wr w.heap.size o k (fracsP C P' Q s k) ∧ Below w.heap.size w wr) (fun _ i _ => 10 - (intOf i).toNat)
          case atStart => exact ⟨0, by omega, rfl, ownsPairs_nil _ _, hbW6⟩
          case round =>
            obtain ⟨k, hle, rfl, hown, hbw⟩ := hrel
            by_cases hlt : k < 10
            · have hdg := digAgg k hlt
              have hsucc : fracsP C P' Q s (k + 1) = fracsP C P' Q s k ++ [((partN (digC k) C P' Q / Nat.gcd (partN (digC k) C P' Q) s : Nat) : Int), ((s / Nat.gcd (partN (digC k) C P' Q) s : Nat) : Int)] := rfl
              have hx := Nat.le_trans (partN_le (digC k) C P' Q hPQ hQ) (show 10000000 ≤ 1000000000000 by omega)
              have HP := Lib.hid (fun w => weight_any (digC k) C P' Q (digC_lt k) hC hPQ hQ w)
              generalize partN (digC k) C P' Q = x at HP hsucc hx
              have HS := Lib.hid hsucc
              clear hsucc hbW
              go_wp2_with (first | (go_at_call 25; refine (HP.out _).mono ?_; rintro e w' ⟨rfl, rfl⟩) | (go_at_call 24; refine (fraction_any x s hx (by omega) hpos _).mono ?_; rintro e w4 ⟨rfl, hb4⟩; have hb24 : Below w.heap.size wr w4 := hb4.mono hbw.size; have hown4 := ownsPairs_below hown hb4 (Nat.le_refl _); have hz4 : w.heap.size ≤ w4.heap.size := Nat.le_trans hbw.size hb4.size) | (at_builtin; refine wpAppendPair w4 (by rfl) _ _ (by rfl) w.heap.size _ k _ (by rfl) hown4 _ _ _ (by rfl) (by omega) hz4 ?_; intro ao cap w5 hown5 hb5))
              go_roundw
              case rel => exact ⟨k + 1, by omega, by go_num, by rw [HS.out, Int.natCast_ediv, Int.natCast_ediv]; exact hown5, hbw.trans (hb24.trans hb5)⟩
              case measure => simp [intOf]; omega
            · have hk10 : k = 10 := by omega
              subst hk10
              obtain ⟨ao, cap, rfl, _⟩ := ownsPairs_shape hown
              clear hbW
              go_wp2
              go_ret2
              exact ⟨ao, cap, rfl, hown, hbw⟩
        · have hs0 : s = 0 := by omega
          subst hs0
          have hN := HN.out
          have hF := HF.out
          have hO := HO.out
          rw [if_neg hpos] at hN hF
          rw [show decide (0 < 0) = false by simp] at hO
          subst hN hF hO
          clear hTl HN HF HO HT
          go_wp2
          go_ret2
          exact ⟨_, _, rfl, ownsPairs_nil _ _, hbW⟩
  · rw [Bool.not_eq_true] at hok
    have eo : cfoOk c p q = false := by simp [cfoOk, hok]
    have en : cfN c p q = 0 := by simp [cfN, eo]
    have el : cfL c p q = [] := by simp [cfL, eo]
    rw [en, el, eo]
    clear en el eo
    unfold cfvOk at hok
    generalize hx1 : inB 0 127 c = b1 at hok
    generalize hx3 : flickB p q = b3 at hok
    rcases b1 with _ | _ <;> rcases b3 with _ | _
    all_goals first
      | (exfalso; exact absurd hok (by decide))
      | (clear hok; have hA1 := @cellAlloc; have hA2 := @frozenAlloc; have hA3 := @setCellAlloc; go_enter Try.func16, Try.ntmps16; go_wp2_with (first | (go_at_call 22; refine (IsCell_any _ _).mono ?_; rintro e w' ⟨rfl, rfl⟩) | (go_at_call 23; refine (isFlicker_any _ _ _).mono ?_; rintro e w' ⟨rfl, rfl⟩)); go_ret2; exact ⟨_, _, rfl, ownsPairs_nil _ _, by (repeat (first | assumption | exact Below.refl _ _ | refine belowThen ?_ (Go.Joins.below_alloc1 _ _) | apply Below.drew | refine belowThen ?_ (by assumption) | refine belowThen ?_ (Go.Joins.below_draws _ _ _) | refine Below.setCell ?_ (by first | exact Nat.le_refl _ | (simp; done) | (simp; omega)) _))⟩)
end Go.Proofs.Ytpcmlfohblglaaa
