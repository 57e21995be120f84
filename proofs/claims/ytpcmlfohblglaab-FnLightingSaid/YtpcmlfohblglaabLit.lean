/- The contract of the function that lists the cells that a cell can become. -/
import Derived.Test.YtpcmlfohblglaabLight
import Derived.Lib.Hide
namespace Go.Proofs.Ytpcmlfohblglaab
open Go.RowKit

/-- The cells that a cell can become by lighting one of the first k bars. -/
def litP (L : List Int) (c k : Nat) : List Nat := ((List.range k).filter (nextB L c)).map fun b => c ||| 2 ^ b
def litL (L : List Int) (c : Nat) : List Nat := litP L c 7
/-- Natural numbers as integers. -/
def ints (l : List Nat) : List Int := l.map fun (n : Nat) => (n : Int)
theorem litP_succ (L : List Int) (c k : Nat) : litP L c (k + 1) = if nextB L c k = true then litP L c k ++ [c ||| 2 ^ k] else litP L c k := by
  simp only [litP, List.range_succ, List.filter_append, List.map_append]
  split <;> simp_all [List.filter_cons]
theorem litP_le (L : List Int) (c k : Nat) : (litP L c k).length ≤ k := by
  simp only [litP, List.length_map]
  exact Nat.le_trans (List.length_filter_le _ _) (by simp)
theorem ints_length (l : List Nat) : (ints l).length = l.length := by simp [ints]
theorem ints_append (l m : List Nat) : ints (l ++ m) = ints l ++ ints m := by simp [ints]
theorem ints_getD (l : List Nat) (j : Nat) : (ints l).getD j 0 = ((l.getD j 0 : Nat) : Int) := by
  simp only [ints, List.getD_eq_getElem?_getD, List.getElem?_map]
  cases l[j]? <;> rfl
/-- A slice of the call's own is returned that holds the numbers. -/
def RetNats (l : List Nat) (w : World) (e : Ending) (w' : World) : Prop := ∃ ao cap, e = .returned (.slice ao l.length cap) ∧ ownsInts w' w.heap.size (.slice ao l.length cap) (ints l) ∧ Below w.heap.size w w'
set_option maxHeartbeats 400000 in
theorem lit_any (c : Nat) (hc : c < 128) (ao : Option Addr) (n cap : Nat) (L : List Int) (w : World) (hr : RdI w ao L) (hn : L.length = n) (hm : n ≤ maxLen) (hD : allDig L) :
    Calls Try.prog 56 #[.int .i64 c, .slice ao n cap] w (RetNats (litL L c) w) := by
  have HD := Lib.hid hD
  have HN := Lib.hid hn
  clear hD hn
  have hA1 := @cellAlloc; have hA2 := @frozenAlloc; have hA3 := @setCellAlloc; go_enter Try.func56, Try.ntmps56
  go_wp2
  go_loopw [5, 7] (fun v i wr => ∃ k : Nat, k ≤ 7 ∧ i = .int .i64 k ∧ ownsInts wr w.heap.size v (ints (litP L c k)) ∧ Below w.heap.size w wr) (fun _ i _ => 7 - (intOf i).toNat)
  case atStart => exact ⟨0, by omega, rfl, ownsInts_nil _ _, Below.refl _ _⟩
  case round =>
    obtain ⟨k, hle, rfl, hown, hbw⟩ := hrel
    by_cases hlt : k < 7
    · have hs := shl_fact k hlt
      have hp := pow_lt k hlt
      have hx := or64 c (2 ^ k) (by omega) (by omega)
      have hlen := litP_le L c k
      rw [← ints_length] at hlen
      have hML := lightM_lt L c
      have hbit := bit_fact (lightM L c) k (by omega)
      have hmb : (lightM L c / 2 ^ k % 2 == 1) = nextB L c k := maskP_bit (nextB L c) k hlt
      have hcond : ((((lightM L c / 2 ^ k % 2 : Nat) : Int)) == 1) = (lightM L c / 2 ^ k % 2 == 1) := by rw [Bool.eq_iff_iff]; simp only [beq_iff_eq]; omega
      have hsucc := litP_succ L c k
      rw [hmb] at hcond
      have HM := Lib.hid (fun w hr => lightable_any c hc ao n cap L w hr HN.out hm HD.out)
      generalize lightM L c = M at hML hbit hcond HM
      generalize (M / 2 ^ k % 2 : Nat) = bb at hbit hcond
      generalize hq : nextB L c k = q at hcond hsucc
      generalize (2 ^ k : Nat) = m at hs hp hx hsucc
      generalize (c ||| m) = d at hx hsucc
      clear hq hmb
      have HS := Lib.hid hsucc
      clear hsucc
      rcases q with _ | _
      · go_wp2_with (go_at_call 40; refine (HM.out _ (RdI_below hr hbw)).mono ?_; rintro e w1 ⟨rfl, hb1⟩)
        go_roundw
        case rel => exact ⟨k + 1, by omega, by go_num, by rw [HS.out]; exact ownsInts_below hown hb1 (Nat.le_refl _), belowThen hbw hb1⟩
        case measure => simp [intOf]; omega
      · go_wp2_with (first | (go_at_call 40; refine (HM.out _ (RdI_below hr hbw)).mono ?_; rintro e w1 ⟨rfl, hb1⟩; have hown1 := ownsInts_below hown hb1 (Nat.le_refl _); have hs1 := hb1.size; have hsw := hbw.size) | (at_builtin; refine wpAppendInt w1 (by rfl) _ _ (by rfl) w.heap.size _ _ (by rfl) hown1 (d : Int) (by rfl) (by omega) (by omega) ?_; intro co cc w4 hv4 hb4))
        go_roundw
        case rel => exact ⟨k + 1, by omega, by go_num, by rw [HS.out, if_pos trivial, ints_append]; exact hv4, (belowThen hbw hb1).trans hb4⟩
        case measure => simp [intOf]; omega
    · have hk : k = 7 := by omega
      subst hk
      obtain ⟨co, cc, rfl, _⟩ := ownsInts_shape hown
      rw [ints_length] at hown
      go_wp2
      go_ret
      exact ⟨co, cc, by rw [ints_length]; rfl, hown, hbw⟩
end Go.Proofs.Ytpcmlfohblglaab
