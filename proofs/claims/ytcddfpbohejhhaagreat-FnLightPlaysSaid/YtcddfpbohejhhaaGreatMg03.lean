/- Joined texts: Plain, Digit, Order. -/
import Derived.Test.YtcddfpbohejhhaaGreatMg01
import Derived.Test.YtcddfpbohejhhaaGreatMg02
import Derived.Lib.Hide
import Derived.Deep.QuietTactic
import Derived.BigQuiet
import Derived.WalkSpells
namespace Go.Proofs.YtcddfpbohejhhaaGreat
open Go.RowKit

/-- The cell of a digit. -/
def digC (d : Nat) : Nat := [63, 6, 91, 79, 102, 109, 125, 7, 127, 111].getD d 0
theorem digC_lt (d : Nat) : digC d < 128 := by
  by_cases h : d < 10
  · have : ∀ x : Fin 10, digC x.val < 128 := by decide
    exact this ⟨d, h⟩
  · have : digC d = 0 := by
      unfold digC
      rw [List.getD_eq_getElem?_getD, List.getElem?_eq_none (by simp; omega)]
      rfl
    omega
theorem digC_in (d : Nat) : inB 0 127 (digC d : Int) = true := by
  have := digC_lt d
  rw [inB_iff]; omega
end Go.Proofs.YtcddfpbohejhhaaGreat

namespace Go.Proofs.YtcddfpbohejhhaaGreat
open Go.RowKit

theorem l2Digit_any (d : Nat) (hd : d < 10) (w : World) : Calls Tryz.prog 71 #[.int .i64 d] w
    fun e w' => e = .returned (.int .i64 (digC d)) ∧ Below w.heap.size w w' := by
  have hA1 := @cellAlloc
  have h10 : (d : Int) < 10 := by omega
  have hi : ∀ h, ([Value.int .i64 63, .int .i64 6, .int .i64 91, .int .i64 79, .int .i64 102, .int .i64 109, .int .i64 125, .int .i64 7, .int .i64 127, .int .i64 111] : List Value)[d]'h = .int .i64 (digC d) := by
    match d, hd with
    | 0, _ => exact fun _ => rfl
    | 1, _ => exact fun _ => rfl
    | 2, _ => exact fun _ => rfl
    | 3, _ => exact fun _ => rfl
    | 4, _ => exact fun _ => rfl
    | 5, _ => exact fun _ => rfl
    | 6, _ => exact fun _ => rfl
    | 7, _ => exact fun _ => rfl
    | 8, _ => exact fun _ => rfl
    | 9, _ => exact fun _ => rfl
    | n + 10, h => omega
  go_enter Tryz.func71, Tryz.ntmps71
  go_wp2
  go_ret
  exact ⟨rfl, by (repeat (first | assumption | exact Below.refl _ _ | refine belowThen ?_ (Go.Joins.below_alloc1 _ _) | apply Below.drew | refine belowThen ?_ (by assumption) | refine belowThen ?_ (Go.Joins.below_draws _ _ _) | refine Below.setCell ?_ (by first | exact Nat.le_refl _ | (simp; done) | (simp; omega)) _))⟩
theorem digitCells_any (w : World) : Calls Tryz.prog 82 #[] w
    fun e w' => e = .returned (.agg #[.int .i64 63, .int .i64 6, .int .i64 91, .int .i64 79, .int .i64 102, .int .i64 109, .int .i64 125, .int .i64 7, .int .i64 127, .int .i64 111]) ∧ Below w.heap.size w w' := by
  go_enter Tryz.func82, Tryz.ntmps82
  go_wp2
  exact bodyPost_ret (v := .agg #[.int .i64 63, .int .i64 6, .int .i64 91, .int .i64 79, .int .i64 102, .int .i64 109, .int .i64 125, .int .i64 7, .int .i64 127, .int .i64 111]) (by simp [results, Tryz.results82, go_sem]) rfl ⟨rfl, by (repeat (first | assumption | exact Below.refl _ _ | refine belowThen ?_ (Go.Joins.below_alloc1 _ _) | apply Below.drew | refine belowThen ?_ (by assumption) | refine belowThen ?_ (Go.Joins.below_draws _ _ _) | refine Below.setCell ?_ (by first | exact Nat.le_refl _ | (simp; done) | (simp; omega)) _))⟩

set_option maxRecDepth 100000 in
/-- What the cells of digits are, at each place. -/
theorem digAgg (d : Nat) (hd : d < 10) (w : World) : (Instr.index 89 (.agg #[.int .i64 63, .int .i64 6, .int .i64 91, .int .i64 79, .int .i64 102, .int .i64 109, .int .i64 125, .int .i64 7, .int .i64 127, .int .i64 111]) (.int .i64 (d : Int))).run Tryz.prog w = .ok (.int .i64 (digC d)) w := by
  match d, hd with
  | 0, _ => rfl
  | 1, _ => rfl
  | 2, _ => rfl
  | 3, _ => rfl
  | 4, _ => rfl
  | 5, _ => rfl
  | 6, _ => rfl
  | 7, _ => rfl
  | 8, _ => rfl
  | 9, _ => rfl
  | n + 10, h => omega
end Go.Proofs.YtcddfpbohejhhaaGreat

namespace Go.Proofs.YtcddfpbohejhhaaGreat
open Go.RowKit

/-- The first k elements are digits, each other than those before it. -/
def okAt (L : List Int) (i : Nat) : Bool := inB 0 9 (L.getD i 0) && !((L.take i).contains (L.getD i 0))
def okP (L : List Int) (k : Nat) : Bool := (List.range k).all (okAt L)
/-- The list is an order. -/
def orderB (L : List Int) : Bool := okP L L.length
theorem okP_succ (L : List Int) (k : Nat) : okP L (k + 1) = (okP L k && okAt L k) := by simp [okP, List.range_succ]
theorem okP_le {L : List Int} {j k : Nat} (h : okP L k = true) (hj : j ≤ k) : okP L j = true := by
  simp only [okP, List.all_eq_true, List.mem_range] at h ⊢
  exact fun i hi => h i (by omega)
theorem okP_bad {L : List Int} {k : Nat} (hk : k < L.length) (h : okAt L k = false) : orderB L = false := by
  cases ho : orderB L with
  | false => rfl
  | true =>
    have := okP_le ho (show k + 1 ≤ L.length by omega)
    rw [okP_succ, h] at this
    simp at this
/-- Different elements of a list are no more than that list has. -/
theorem few : ∀ (L M : List Int), (∀ i, i < L.length → L.getD i 0 ∈ M ∧ (L.take i).contains (L.getD i 0) = false) → L.length ≤ M.length := by
  intro L
  induction hn : L.length generalizing L with
  | zero => intro M _; omega
  | succ n ih =>
    intro M h
    have h1 := h n (by omega)
    have hlen : (L.take n).length = n := by rw [List.length_take]; omega
    have h2 := ih (L.take n) hlen (M.erase (L.getD n 0)) (by
      intro i hi
      have hin : i < n := by omega
      have e : (L.take n).getD i 0 = L.getD i 0 := by simp only [List.getD_eq_getElem?_getD, List.getElem?_take_of_lt hin]
      have et : (L.take n).take i = L.take i := by rw [List.take_take]; congr 1; omega
      have h3 := h i (by omega)
      rw [e, et]
      refine ⟨?_, h3.2⟩
      rw [List.mem_erase_of_ne]
      · exact h3.1
      · intro he
        have hm : (L.take n).contains (L.getD n 0) = true := by
          rw [List.contains_iff_mem, ← he, ← e]
          have : (L.take n).getD i 0 = (L.take n)[i]'(by omega) := by rw [List.getD_eq_getElem?_getD, List.getElem?_eq_getElem (by omega)]; rfl
          rw [this]
          exact List.getElem_mem _
        rw [hm] at h1
        exact absurd h1.2 (by simp))
    rw [List.length_erase_of_mem h1.1] at h2
    have : 0 < M.length := List.length_pos_of_mem h1.1
    omega
theorem okP_few {L : List Int} {k : Nat} (hk : k ≤ L.length) (h : okP L k = true) : k ≤ 10 := by
  have hlen : (L.take k).length = k := by rw [List.length_take]; omega
  have := few (L.take k) [0, 1, 2, 3, 4, 5, 6, 7, 8, 9] (by
    intro i hi
    have hik : i < k := by omega
    simp only [okP, List.all_eq_true, List.mem_range] at h
    have h1 := h i hik
    have e : (L.take k).getD i 0 = L.getD i 0 := by simp only [List.getD_eq_getElem?_getD, List.getElem?_take_of_lt hik]
    have et : (L.take k).take i = L.take i := by rw [List.take_take]; congr 1; omega
    rw [e, et]
    simp only [okAt, Bool.and_eq_true, inB_iff, Bool.not_eq_true'] at h1
    refine ⟨?_, h1.2⟩
    simp only [List.mem_cons, List.not_mem_nil, or_false]
    omega)
  rw [hlen] at this
  simpa using this
theorem orderB_le {L : List Int} (h : orderB L = true) : L.length ≤ 10 := okP_few (Nat.le_refl _) h

set_option maxHeartbeats 400000 in
theorem l4Order_any (ao : Option Addr) (n cap : Nat) (L : List Int) (w : World) (hr : RdI w ao L) (hn : L.length = n) (hm : n ≤ maxLen) (hcap : n ≤ cap) :
    Calls Tryz.prog 101 #[.slice ao n cap] w fun e w' => e = .returned (.bool (orderB L)) ∧ Below w.heap.size w w' := by
  have hm' := hm
  unfold maxLen at hm
  go_enter Tryz.func101, Tryz.ntmps101
  go_wp2
  go_loopw [3] (fun i wr => ∃ k : Nat, k ≤ n ∧ i = .int .i64 k ∧ Hid (okP L k = true) ∧ Below w.heap.size w wr) (fun i _ => n - (intOf i).toNat)
  case atStart => exact ⟨0, by omega, rfl, rfl, Below.refl _ _⟩
  case round =>
    obtain ⟨k, hle, rfl, hok, hbw⟩ := hrel
    have hk10 := okP_few (by omega) hok.out
    by_cases hlt : k < n
    · have hrr := RdI_below hr hbw
      have hrt := RdI_take hrr k
      have htl : (L.take k).length = k := by rw [List.length_take]; omega
      rcases hrr with h | ⟨b1, o1, rfl, hb1, hc1⟩
      · rw [h] at hn; simp at hn; omega
      have hx := hc1 k (by omega)
      have hat : okAt L k = (inB 0 9 (L.getD k 0) && !((L.take k).contains (L.getD k 0))) := rfl
      generalize hy : L.getD k 0 = y at hx hat
      clear hc1 hy
      have HT := Lib.hid htl
      have HN := Lib.hid hn
      clear htl hn hr
      generalize hco : (L.take k).contains y = c at hat
      generalize hin : inB 0 9 y = d at hat
      have HC := Lib.hid hco
      have HI := Lib.hid hin
      clear hco hin
      have HA := Lib.hid hat
      clear hat
      have C1 := Lib.hid (fun W => by have h := l1In_any y 0 9 W; rw [HI.out] at h; exact h : ∀ W, Calls Tryz.prog 102 #[.int .i64 y, .int .i64 0, .int .i64 9] W fun e w' => e = .returned (.bool d) ∧ W = w')
      have C2 := Lib.hid (fun m => by have h := l1Has_any (some ⟨b1, o1, none⟩) k cap (L.take k) y (wr.drewN m) (RdI_below hrt (Go.Joins.below_draws _ _ _)) HT.out (by unfold maxLen; omega); rw [HC.out] at h; exact h : ∀ m, Calls Tryz.prog 75 #[.slice (some ⟨b1, o1, none⟩) k cap, .int .i64 y] (wr.drewN m) fun e w' => e = .returned (.bool c) ∧ wr.drewN m = w')
      rcases d with _ | _
      · go_wp2_with fail
        go_quiet ((go_at_call 102; exact quietL (C1.out _)))
        go_wp2
        go_ret
        exact ⟨ret_bool (okP_bad (k := k) (by rw [HN.out]; exact hlt) HA.out).symm, belowThen hbw (Go.Joins.below_draws _ _ _)⟩
      · rcases c with _ | _
        · go_wp2_with fail
          go_quiet ((first | (go_at_call 102; exact quietL (C1.out _)) | (go_at_call 75; exact quietL (C2.out _))))
          go_wp2
          go_roundw
          case rel => exact ⟨k + 1, by omega, by go_num, (by show okP L (k + 1) = true; rw [okP_succ, hok.out, HA.out]; rfl), belowThen hbw (Go.Joins.below_draws _ _ _)⟩
          case measure => simp [intOf]; omega
        · go_wp2_with fail
          go_quiet ((first | (go_at_call 102; exact quietL (C1.out _)) | (go_at_call 75; exact quietL (C2.out _))))
          go_wp2
          go_ret
          exact ⟨ret_bool (okP_bad (k := k) (by rw [HN.out]; exact hlt) HA.out).symm, belowThen hbw (Go.Joins.below_draws _ _ _)⟩
    · have hkn : k = n := by omega
      subst hkn
      have ho : orderB L = true := by unfold orderB; rw [hn]; exact hok.out
      have HO := Lib.hid ho
      clear hr ho hok hn
      go_wp2
      go_ret
      exact ⟨ret_bool (by rw [HO.out]; simp; omega), hbw⟩

theorem l11Goal_any (ao : Option Addr) (n cap : Nat) (L : List Int) (w : World) (hr : RdI w ao L) (hn : L.length = n) (hm : n ≤ maxLen) (hcap : n ≤ cap) :
    Calls Tryz.prog 69 #[.slice ao n cap] w fun e w' => e = .returned (.bool (orderB L && decide (0 < n))) ∧ Below w.heap.size w w' := by
  by_cases ho : orderB L = true
  all_goals
    try rw [Bool.not_eq_true] at ho
    go_enter Tryz.func69, Tryz.ntmps69
    go_wp2_with (go_at_call 101; refine (l4Order_any _ _ _ L _ hr hn hm hcap).mono ?_; rw [ho]; rintro e w1 ⟨rfl, hb1⟩)
    go_ret
    exact ⟨ret_bool (by simp [ho]), hb1⟩
theorem isDigit_any (x : Int) (w : World) : Calls Tryz.prog 113 #[.int .i64 x] w fun e w' => e = .returned (.bool (inB 0 9 x)) ∧ w = w' := by
  go_enter Tryz.func113, Tryz.ntmps113
  go_wp2_with (go_at_call 92; refine (within_any _ _ _ _).mono ?_; rintro e w' ⟨rfl, rfl⟩)
  go_ret
  exact ⟨rfl, rfl⟩
set_option maxHeartbeats 400000 in
theorem isOrder_any (ao : Option Addr) (n cap : Nat) (L : List Int) (w : World) (hr : RdI w ao L) (hn : L.length = n) (hm : n ≤ maxLen) (hcap : n ≤ cap) :
    Calls Tryz.prog 103 #[.slice ao n cap] w fun e w' => e = .returned (.bool (orderB L)) ∧ w = w' := by
  have hm' := hm
  unfold maxLen at hm
  go_enter Tryz.func103, Tryz.ntmps103
  go_wp2
  go_loop [7] (fun i => ∃ k : Nat, k ≤ n ∧ i = .int .i64 k ∧ Hid (okP L k = true)) (fun i => n - (intOf i).toNat)
  case atStart => exact ⟨0, by omega, rfl, rfl⟩
  case round =>
    obtain ⟨k, hle, rfl, hok⟩ := hrel
    by_cases hlt : k < n
    · have hrt := RdI_take hr k
      have htl : (L.take k).length = k := by rw [List.length_take]; omega
      rcases hr with h | ⟨b1, o1, rfl, hb1, hc1⟩
      · rw [h] at hn; simp at hn; omega
      have hx := hc1 k (by omega)
      have hat : okAt L k = (inB 0 9 (L.getD k 0) && !((L.take k).contains (L.getD k 0))) := rfl
      generalize hy : L.getD k 0 = y at hx hat
      clear hc1 hy
      have HT := Lib.hid htl
      have HN := Lib.hid hn
      clear htl hn
      generalize hco : (L.take k).contains y = c at hat
      generalize hin : inB 0 9 y = d at hat
      have HC := Lib.hid hco
      have HI := Lib.hid hin
      clear hco hin
      have HA := Lib.hid hat
      clear hat
      rcases d with _ | _
      · go_wp2_with (go_at_call 113; refine (isDigit_any _ _).mono ?_; rw [HI.out]; rintro e w' ⟨rfl, rfl⟩)
        go_ret
        exact ⟨ret_bool (okP_bad (k := k) (by rw [HN.out]; exact hlt) HA.out).symm, rfl⟩
      · rcases c with _ | _
        · go_wp2_with (first | (go_at_call 113; refine (isDigit_any _ _).mono ?_; rw [HI.out]; rintro e w' ⟨rfl, rfl⟩) | (go_at_call 89; refine (sliceContains_any _ _ _ (L.take k) _ _ hrt HT.out (by unfold maxLen; omega)).mono ?_; rw [HC.out]; rintro e w' ⟨rfl, rfl⟩))
          go_round
          case rel => exact ⟨k + 1, by omega, by go_num, (by show okP L (k + 1) = true; rw [okP_succ, hok.out, HA.out]; rfl)⟩
          case measure => simp [intOf]; omega
        · go_wp2_with (first | (go_at_call 113; refine (isDigit_any _ _).mono ?_; rw [HI.out]; rintro e w' ⟨rfl, rfl⟩) | (go_at_call 89; refine (sliceContains_any _ _ _ (L.take k) _ _ hrt HT.out (by unfold maxLen; omega)).mono ?_; rw [HC.out]; rintro e w' ⟨rfl, rfl⟩))
          go_ret
          exact ⟨ret_bool (okP_bad (k := k) (by rw [HN.out]; exact hlt) HA.out).symm, rfl⟩
    · have hkn : k = n := by omega
      subst hkn
      have ho : orderB L = true := by unfold orderB; rw [hn]; exact hok.out
      have HO := Lib.hid ho
      clear hr ho hok hn
      go_wp2
      go_ret
      exact ⟨ret_bool HO.out.symm, rfl⟩
theorem IsGoalI_any (ao : Option Addr) (n cap : Nat) (L : List Int) (w : World) (hr : RdI w ao L) (hn : L.length = n) (hm : n ≤ maxLen) (hcap : n ≤ cap) :
    Calls Tryz.prog 78 #[.slice ao n cap] w fun e w' => e = .returned (.bool (orderB L && decide (0 < n))) ∧ w = w' := by
  by_cases h0 : 0 < n
  · go_enter Tryz.func78, Tryz.ntmps78
    go_wp2_with (go_at_call 103; refine (isOrder_any _ _ _ L _ hr hn hm hcap).mono ?_; rintro e w' ⟨rfl, rfl⟩)
    go_ret
    exact ⟨ret_bool (by simp [h0]), rfl⟩
  · have h00 : n = 0 := by omega
    subst h00
    go_enter Tryz.func78, Tryz.ntmps78
    go_wp2_with (go_at_call 103; refine (isOrder_any _ _ _ L _ hr hn hm hcap).mono ?_; rintro e w' ⟨rfl, rfl⟩)
    go_ret
    exact ⟨ret_bool (by simp), rfl⟩
end Go.Proofs.YtcddfpbohejhhaaGreat
