/- Contracts of the functions that give the mean of the bars of numbers. -/
import Derived.Test.YtanhhphdbahgpaaDoorRowN
import Derived.Test.YtanhhphdbahgpaaDoorRow
import Derived.Test.YtanhhphdbahgpaaDoorCount
import Derived.Test.YtanhhphdbahgpaaDoorFrac
import Derived.Lib.Hide
namespace Go.Proofs.YtanhhphdbahgpaaDoor
open Go.RowKit

/-- The bars of the first k cells of a row. -/
def barsP (L : List Int) : Nat → Nat
  | 0 => 0
  | k + 1 => barsP L k + cnt (L.getD k 0).toNat
theorem barsP_le (L : List Int) (k : Nat) : barsP L k ≤ 7 * k := by
  induction k with
  | zero => exact Nat.le_refl _
  | succ k ih => have := cnt_le (L.getD k 0).toNat; unfold barsP; omega
theorem barsP_append (A B : List Int) (k : Nat) (hk : k ≤ A.length) : barsP (A ++ B) k = barsP A k := by
  induction k with
  | zero => rfl
  | succ k ih =>
    unfold barsP
    rw [ih (by omega), List.getD_eq_getElem?_getD, List.getElem?_append_left (by omega), ← List.getD_eq_getElem?_getD]
/-- The bars of a number. -/
def barsN (q : Nat) : Nat := barsP (rowN q) (rowN q).length
theorem barsN_step (q : Nat) : barsN q = (if q < 10 then 0 else barsN (q / 10)) + cnt (digC (q % 10)) := by
  unfold barsN
  rw [rowN_last q]
  by_cases h : q < 10
  · rw [if_pos h, if_pos h]; rfl
  · rw [if_neg h, if_neg h, List.length_append]
    have e : ∀ (A : List Int) (k : Nat), barsP A (k + 1) = barsP A k + cnt (A.getD k 0).toNat := fun _ _ => rfl
    rw [show (rowN (q / 10)).length + [(digC (q % 10) : Int)].length = (rowN (q / 10)).length + 1 from rfl, e, barsP_append _ _ _ (Nat.le_refl _), List.getD_eq_getElem?_getD, List.getElem?_append_right (Nat.le_refl _)]
    simp
theorem barsN_le (q : Nat) (hq : q < 1000000) : barsN q ≤ 42 := by
  have h6 := digL_length q 6 (by omega) hq
  have hl : (rowN q).length = (digL q).length := by simp [rowN]
  have := barsP_le (rowN q) (rowN q).length
  unfold barsN
  omega
/-- The bars of the numbers below k. -/
def meanP : Nat → Nat
  | 0 => 0
  | k + 1 => meanP k + barsN k
theorem meanP_le (k : Nat) (hk : k ≤ 10000) : meanP k ≤ 42 * k := by
  induction k with
  | zero => exact Nat.le_refl _
  | succ k ih => have := barsN_le k (by omega); have := ih (by omega); unfold meanP; omega
def mbA (n : Int) : Int := if inB 0 9999 n = true then ((meanP (n.toNat + 1) / Nat.gcd (meanP (n.toNat + 1)) (n.toNat + 1) : Nat) : Int) else 0
def mbB (n : Int) : Int := if inB 0 9999 n = true then (((n.toNat + 1) / Nat.gcd (meanP (n.toNat + 1)) (n.toNat + 1) : Nat) : Int) else 0
theorem rowN_rowB (q : Nat) (hq : q < 1000000) : rowB (rowN q) = true := by
  have h6 := digL_length q 6 (by omega) hq
  have hl : (rowN q).length = (digL q).length := by simp [rowN]
  unfold rowB
  rw [Bool.and_eq_true]
  exact ⟨by simp; omega, List.all_eq_true.2 (rowN_cells q)⟩
theorem memD {R : List Int} {k : Nat} (h : k < R.length) : R.getD k 0 ∈ R := by
  have e : R.getD k 0 = R[k] := by rw [List.getD_eq_getElem?_getD, List.getElem?_eq_getElem h]; rfl
  rw [e]; exact List.getElem_mem _
theorem cellN {x : Int} (h : inB 0 127 x = true) : ∃ c : Nat, x = (c : Int) ∧ c < 128 := by
  rw [inB_iff] at h
  obtain ⟨c, rfl⟩ := Int.eq_ofNat_of_zero_le h.1
  exact ⟨c, rfl, by omega⟩
set_option maxHeartbeats 800000 in
theorem LitOfI_any (ao : Option Addr) (n cap : Nat) (L : List Int) (w : World) (hr : RdI w ao L) (hn : L.length = n) (hok : rowB L = true) : Calls Tryd.prog 15 #[.slice ao n cap] w fun e w' => e = .returned (.tuple #[.int .i64 (barsP L L.length), .bool true]) ∧ Below w.heap.size w w' := by
  have hl6 := rowB_len hok
  have HM := Lib.hid (rowB_at hok)
  have HW := Lib.hid (fun W h => IsRow_any ao n cap L W h hn (by unfold maxLen; omega))
  rw [hok] at HW
  subst hn
  clear hok
  have hA1 := @cellAlloc; have hA2 := @frozenAlloc; have hA3 := @setCellAlloc; go_enter Tryd.func15, Tryd.ntmps15
  go_wp2_with (first | (go_at_call 31; refine (HW.out _ hr).mono ?_; rintro e w1 ⟨rfl, hb1⟩))
  replace hr := RdI_below hr hb1
  go_loop [4, 12] (fun m i => ∃ k : Nat, k ≤ L.length ∧ i = .int .i64 k ∧ m = .int .i64 (barsP L k)) (fun _ i => L.length - (intOf i).toNat)
  case atStart => exact ⟨0, by omega, rfl, rfl⟩
  case round =>
    obtain ⟨k, hk, rfl, rfl⟩ := hrel
    have hlp := barsP_le L k
    by_cases hlt : k < L.length
    · have hd : decide ((k : Int) < (L.length : Int)) = true := by simp; omega
      obtain ⟨c, hc, hc2⟩ := cellN (HM.out k hlt)
      rcases hr with h | ⟨b1, o1, rfl, hb1', hc1⟩
      · rw [h] at hlt; simp at hlt
      have hx := hc1 k hlt
      have hsucc : barsP L (k + 1) = barsP L k + cnt (L.getD k 0).toNat := rfl
      rw [hc] at hx hsucc
      rw [Int.toNat_natCast] at hsucc
      have hcl := cnt_le c
      have HC := Lib.hid (fun W => count_any c hc2 W)
      generalize cnt c = y at hsucc hcl HC
      generalize barsP L k = S at hsucc hlp ⊢
      have HS := Lib.hid hsucc
      clear hsucc hc1 hc
      go_wp2_with (first | (go_at_call 32; refine (HC.out _).mono ?_; rintro e w' ⟨rfl, rfl⟩))
      go_round
      case rel => exact ⟨k + 1, by omega, by go_num, by rw [HS.out]; go_num⟩
      case measure => simp [intOf]; omega
    · have hkn : k = L.length := by omega
      subst hkn
      go_wp2
      go_ret2
      exact ⟨rfl, hb1⟩
set_option maxHeartbeats 1600000 in
theorem MeanBarsI_any (n : Int) (w : World) (htab : Lib.TabIs Tryd.prog w "internal/strconv.uint64pow10" .u64 Lib.pow10Tab) : Calls Tryd.prog 6 #[.int .i64 n] w
    fun e w' => e = .returned (.tuple #[.agg #[.int .i64 (mbA n), .int .i64 (mbB n)], .bool (inB 0 9999 n)]) ∧ Below w.heap.size w w' := by
  by_cases hok : inB 0 9999 n = true
  · have hok2 := hok
    rw [inB_iff] at hok2
    obtain ⟨N, rfl⟩ := Int.eq_ofNat_of_zero_le hok2.1
    have hN : N ≤ 9999 := by omega
    have eA : mbA N = ((meanP (N + 1) / Nat.gcd (meanP (N + 1)) (N + 1) : Nat) : Int) := by simp [mbA, hok]
    have eB : mbB N = (((N + 1) / Nat.gcd (meanP (N + 1)) (N + 1) : Nat) : Int) := by simp [mbB, hok]
    rw [eA, eB]
    have hIn := Lib.hid (fun W => within_any (N : Int) 0 9999 W)
    rw [hok] at hIn ⊢
    clear eA eB hok hok2
    have HT := Lib.hid htab
    clear htab
    have hMl := meanP_le (N + 1) (by omega)
    have HF := Lib.hid (fun W => fraction_any (meanP (N + 1)) (N + 1) (by omega) (by omega) (by omega) W)
    have hcast : ((N + 1 : Nat) : Int) = (N : Int) + 1 := by omega
    rw [hcast] at HF
    clear hcast
    have hA1 := @cellAlloc; have hA2 := @frozenAlloc; have hA3 := @setCellAlloc; go_enter Tryd.func6, Tryd.ntmps6
    go_wp2_with (first | (go_at_call 14; refine (hIn.out _).mono ?_; rintro e w' ⟨rfl, rfl⟩))
    go_loopw [4, 14] (fun s i wr => ∃ k : Nat, k ≤ N + 1 ∧ i = .int .i64 k ∧ s = .int .i64 (meanP k) ∧ Below (w.heap.size + 1) (w.alloc (.cells #[.int .i64 0, .int .i64 0] 22)) wr) (fun _ i _ => N + 1 - (intOf i).toNat)
    case atStart => exact ⟨0, by omega, rfl, rfl, Below.refl _ _⟩
    case round =>
      obtain ⟨k, hk, rfl, rfl, hbw⟩ := hrel
      have hsw := hbw.size
      have hbz : w.heap.size + 1 ≤ wr.heap.size := by rw [heapAlloc] at hsw; exact hsw
      have hbv : Below w.heap.size w wr := (Go.Joins.below_alloc1 w _).trans (hbw.mono (by omega))
      by_cases hlt : k < N + 1
      · have hq := meanP_le k (by omega)
        have hsucc : meanP (k + 1) = meanP k + barsN k := rfl
        have hbl := barsN_le k (by omega)
        have HR := Lib.hid (fun W h => rowOf_any k (by omega) W h)
        have HL := Lib.hid (fun ao cap W h => LitOfI_any ao (rowN k).length cap (rowN k) W h rfl (rowN_rowB k (by omega)))
        rw [show barsP (rowN k) (rowN k).length = barsN k from rfl] at HL
        generalize rowN k = R at HR HL
        generalize barsN k = y at hsucc hbl HL
        generalize meanP k = S at hsucc hq ⊢
        have HS := Lib.hid hsucc
        clear hsucc
        go_wp2_with (first | (go_at_call 16; refine (HR.out _ (TabIs_keep HT.out hbv)).mono ?_; rintro e w2 ⟨ao, ca, rfl, hown, hb2⟩) | (go_at_call 15; refine (HL.out _ _ _ (RdI_owns hown)).mono ?_; rintro e w3 ⟨rfl, hb3⟩))
        go_roundw
        case rel => exact ⟨k + 1, by omega, by go_num, by rw [HS.out]; go_num, hbw.trans ((hb2.mono hbz).trans (hb3.mono (by have := hb2.size; omega)))⟩
        case measure => simp [intOf]; omega
      · have hkn : k = N + 1 := by omega
        subst hkn
        have hc0 : wr.cell? ⟨w.heap.size, 0, none⟩ = some (.int .i64 0) := (hbw.cell (p := ⟨w.heap.size, 0, none⟩) (by show w.heap.size < _; omega)).trans (World.cell?_alloc_at _ _ _ _ rfl)
        have hc1 : wr.cell? ⟨w.heap.size, 1, none⟩ = some (.int .i64 0) := (hbw.cell (p := ⟨w.heap.size, 1, none⟩) (by show w.heap.size < _; omega)).trans (World.cell?_alloc_at _ _ _ _ rfl)
        have hf0 : wr.frozen? ⟨w.heap.size, 0, none⟩ = false := (hbw.frozen (p := ⟨w.heap.size, 0, none⟩) (by show w.heap.size < _; omega)).trans (World.frozen?_alloc_at _ _ _ _ rfl)
        have hf1 : wr.frozen? ⟨w.heap.size, 1, none⟩ = false := (hbw.frozen (p := ⟨w.heap.size, 1, none⟩) (by show w.heap.size < _; omega)).trans (World.frozen?_alloc_at _ _ _ _ rfl)
        go_wp2_with (first | (go_at_call 17; refine (HF.out _).mono ?_; rintro e w3 ⟨rfl, hb3⟩; have hs3 := hb3.size; (try simp only [heapAlloc, heapSet] at hs3); have hc3 := cellRule hb3; have hf3 := frozenRule hb3))
        exact bodyPost_ret (v := .tuple #[.agg #[.int .i64 ((meanP (N + 1) / Nat.gcd (meanP (N + 1)) (N + 1) : Nat) : Int), .int .i64 (((N + 1) / Nat.gcd (meanP (N + 1)) (N + 1) : Nat) : Int)], .bool true]) (by simp [results, Tryd.results6, go_sem, ↓IntWalk.iteOmega, *]) rfl ⟨rfl, by (repeat (first | assumption | exact Below.refl _ _ | refine belowThen ?_ (Go.Joins.below_alloc1 _ _) | apply Below.drew | refine belowThen ?_ (by assumption) | refine belowThen ?_ (Go.Joins.below_draws _ _ _) | refine Below.setCell ?_ (by first | exact Nat.le_refl _ | (simp; done) | (simp; omega)) _))⟩
  · rw [Bool.not_eq_true] at hok
    have eA : mbA n = 0 := by simp [mbA, hok]
    have eB : mbB n = 0 := by simp [mbB, hok]
    rw [eA, eB]
    have hIn := Lib.hid (fun W => within_any n 0 9999 W)
    rw [hok] at hIn ⊢
    clear eA eB hok htab
    have hA1 := @cellAlloc; have hA2 := @frozenAlloc; have hA3 := @setCellAlloc; go_enter Tryd.func6, Tryd.ntmps6
    go_wp2_with (first | (go_at_call 14; refine (hIn.out _).mono ?_; rintro e w' ⟨rfl, rfl⟩))
    exact bodyPost_ret (v := .tuple #[.agg #[.int .i64 0, .int .i64 0], .bool false]) (by simp [results, Tryd.results6, go_sem, ↓IntWalk.iteOmega, *]) rfl ⟨rfl, by (repeat (first | assumption | exact Below.refl _ _ | refine belowThen ?_ (Go.Joins.below_alloc1 _ _) | apply Below.drew | refine belowThen ?_ (by assumption) | refine belowThen ?_ (Go.Joins.below_draws _ _ _) | refine Below.setCell ?_ (by first | exact Nat.le_refl _ | (simp; done) | (simp; omega)) _))⟩
set_option maxHeartbeats 1600000 in
theorem MeanBarsS_any (n : Int) (w : World) : Calls Tryd.prog 5 #[.int .i64 n] w
    fun e w' => e = .returned (.tuple #[.agg #[.int .i64 (mbA n), .int .i64 (mbB n)], .bool (inB 0 9999 n)]) ∧ Below w.heap.size w w' := by
  by_cases hok : inB 0 9999 n = true
  · have hok2 := hok
    rw [inB_iff] at hok2
    obtain ⟨N, rfl⟩ := Int.eq_ofNat_of_zero_le hok2.1
    have hN : N ≤ 9999 := by omega
    have eA : mbA N = ((meanP (N + 1) / Nat.gcd (meanP (N + 1)) (N + 1) : Nat) : Int) := by simp [mbA, hok]
    have eB : mbB N = (((N + 1) / Nat.gcd (meanP (N + 1)) (N + 1) : Nat) : Int) := by simp [mbB, hok]
    rw [eA, eB]
    have hIn := Lib.hid (fun W => l1In_any (N : Int) 0 9999 W)
    rw [hok] at hIn ⊢
    clear eA eB hok hok2
    have hMl := meanP_le (N + 1) (by omega)
    have HF := Lib.hid (fun W => l9Cut_any (meanP (N + 1)) (N + 1) (by omega) (by omega) (by omega) W)
    have hcast : ((N + 1 : Nat) : Int) = (N : Int) + 1 := by omega
    rw [hcast] at HF
    clear hcast
    have hA1 := @cellAlloc; have hA2 := @frozenAlloc; have hA3 := @setCellAlloc; go_enter Tryd.func5, Tryd.ntmps5
    go_wp2_with (first | (go_at_call 10; refine (hIn.out _).mono ?_; rintro e w' ⟨rfl, rfl⟩))
    go_loopw [4, 5] (fun s i wr => ∃ k : Nat, k ≤ N + 1 ∧ i = .int .i64 k ∧ s = .int .i64 (meanP k) ∧ Below (w.heap.size + 1) (w.alloc (.cells #[.int .i64 0, .int .i64 0] 22)) wr) (fun _ i _ => N + 1 - (intOf i).toNat)
    case atStart => exact ⟨0, by omega, rfl, rfl, Below.refl _ _⟩
    case round =>
      obtain ⟨k, hk, rfl, rfl, hbw⟩ := hrel
      have hsw := hbw.size
      have hbz : w.heap.size + 1 ≤ wr.heap.size := by rw [heapAlloc] at hsw; exact hsw
      have hbv : Below w.heap.size w wr := (Go.Joins.below_alloc1 w _).trans (hbw.mono (by omega))
      by_cases hlt : k < N + 1
      · have hd : decide (k ≤ N) = true := by simp; omega
        have hq := meanP_le k (by omega)
        have hsucc : meanP (k + 1) = meanP k + barsN k := rfl
        have hbl := barsN_le k (by omega)
        obtain ⟨wo, hwo⟩ : ∃ wo, wo = wr := ⟨_, rfl⟩
        subst hwo
        generalize hS0 : meanP k = S0 at hsucc hq ⊢
        have HS := Lib.hid hsucc
        clear hsucc hS0
        go_wp2
        go_loopw [4, 6] (fun s i wr => ∃ q S : Nat, q ≤ k ∧ i = .int .i64 q ∧ s = .int .i64 S ∧ S + barsN q = S0 + barsN k ∧ Below (w.heap.size + 1) (w.alloc (.cells #[.int .i64 0, .int .i64 0] 22)) wr) (fun _ i _ => (intOf i).toNat)
        case atStart => exact ⟨k, S0, Nat.le_refl _, rfl, rfl, rfl, hbw⟩
        case round =>
          obtain ⟨q, S, hqk, rfl, rfl, hSS, hbi⟩ := hrel
          have hm : q % 10 < 10 := Nat.mod_lt _ (by omega)
          have hdl := digC_lt (q % 10)
          have hcl := cnt_le (digC (q % 10))
          have hstep := barsN_step q
          have HD := Lib.hid (fun W => l2Digit_any (q % 10) hm W)
          have HC := Lib.hid (fun W => l2Count_any (digC (q % 10)) hdl W)
          generalize digC (q % 10) = c at HD HC hcl hstep
          generalize cnt c = y at HC hcl hstep
          rw [Int.natCast_emod] at HD
          by_cases h10 : q < 10
          · rw [if_pos h10] at hstep
            have HE := Lib.hid (show S + y = S0 + barsN k by omega)
            clear hSS hstep
            have hSl : S ≤ 420000 := by have := HE.out; omega
            go_wp2_with (first | (go_at_call 12; refine (HD.out _).mono ?_; rintro e w2 ⟨rfl, hb2⟩) | (go_at_call 11; refine (HC.out _).mono ?_; rintro e w' ⟨rfl, rfl⟩))
            go_roundw
            case rel => exact ⟨k + 1, by omega, by go_num, by rw [HS.out, ← HE.out]; go_num, hbi.trans (hb2.mono (by have h := hbi.size; rw [heapAlloc] at h; exact h))⟩
            case measure => simp [intOf]; omega
          · rw [if_neg h10] at hstep
            have HE := Lib.hid (show S + y + barsN (q / 10) = S0 + barsN k by omega)
            clear hSS hstep
            have hSl : S + y ≤ 420000 := by have := HE.out; omega
            go_wp2_with (first | (go_at_call 12; refine (HD.out _).mono ?_; rintro e w2 ⟨rfl, hb2⟩) | (go_at_call 11; refine (HC.out _).mono ?_; rintro e w' ⟨rfl, rfl⟩))
            go_roundw
            case rel => exact ⟨q / 10, S + y, by omega, by go_num, by go_num, HE.out, hbi.trans (hb2.mono (by have h := hbi.size; rw [heapAlloc] at h; exact h))⟩
            case measure => simp [intOf]; omega
      · have hkn : k = N + 1 := by omega
        subst hkn
        have hc0 : wr.cell? ⟨w.heap.size, 0, none⟩ = some (.int .i64 0) := (hbw.cell (p := ⟨w.heap.size, 0, none⟩) (by show w.heap.size < _; omega)).trans (World.cell?_alloc_at _ _ _ _ rfl)
        have hc1 : wr.cell? ⟨w.heap.size, 1, none⟩ = some (.int .i64 0) := (hbw.cell (p := ⟨w.heap.size, 1, none⟩) (by show w.heap.size < _; omega)).trans (World.cell?_alloc_at _ _ _ _ rfl)
        have hf0 : wr.frozen? ⟨w.heap.size, 0, none⟩ = false := (hbw.frozen (p := ⟨w.heap.size, 0, none⟩) (by show w.heap.size < _; omega)).trans (World.frozen?_alloc_at _ _ _ _ rfl)
        have hf1 : wr.frozen? ⟨w.heap.size, 1, none⟩ = false := (hbw.frozen (p := ⟨w.heap.size, 1, none⟩) (by show w.heap.size < _; omega)).trans (World.frozen?_alloc_at _ _ _ _ rfl)
        go_wp2_with (first | (go_at_call 13; refine (HF.out _).mono ?_; rintro e w3 ⟨rfl, hb3⟩; have hs3 := hb3.size; (try simp only [heapAlloc, heapSet] at hs3); have hc3 := cellRule hb3; have hf3 := frozenRule hb3))
        exact bodyPost_ret (v := .tuple #[.agg #[.int .i64 ((meanP (N + 1) / Nat.gcd (meanP (N + 1)) (N + 1) : Nat) : Int), .int .i64 (((N + 1) / Nat.gcd (meanP (N + 1)) (N + 1) : Nat) : Int)], .bool true]) (by simp [results, Tryd.results5, go_sem, ↓IntWalk.iteOmega, *]) rfl ⟨rfl, by (repeat (first | assumption | exact Below.refl _ _ | refine belowThen ?_ (Go.Joins.below_alloc1 _ _) | apply Below.drew | refine belowThen ?_ (by assumption) | refine belowThen ?_ (Go.Joins.below_draws _ _ _) | refine Below.setCell ?_ (by first | exact Nat.le_refl _ | (simp; done) | (simp; omega)) _))⟩
  · rw [Bool.not_eq_true] at hok
    have eA : mbA n = 0 := by simp [mbA, hok]
    have eB : mbB n = 0 := by simp [mbB, hok]
    rw [eA, eB]
    have hIn := Lib.hid (fun W => l1In_any n 0 9999 W)
    rw [hok] at hIn ⊢
    clear eA eB hok
    have hA1 := @cellAlloc; have hA2 := @frozenAlloc; have hA3 := @setCellAlloc; go_enter Tryd.func5, Tryd.ntmps5
    go_wp2_with (first | (go_at_call 10; refine (hIn.out _).mono ?_; rintro e w' ⟨rfl, rfl⟩))
    exact bodyPost_ret (v := .tuple #[.agg #[.int .i64 0, .int .i64 0], .bool false]) (by simp [results, Tryd.results5, go_sem, ↓IntWalk.iteOmega, *]) rfl ⟨rfl, by (repeat (first | assumption | exact Below.refl _ _ | refine belowThen ?_ (Go.Joins.below_alloc1 _ _) | apply Below.drew | refine belowThen ?_ (by assumption) | refine belowThen ?_ (Go.Joins.below_draws _ _ _) | refine Below.setCell ?_ (by first | exact Nat.le_refl _ | (simp; done) | (simp; omega)) _))⟩
end Go.Proofs.YtanhhphdbahgpaaDoor
