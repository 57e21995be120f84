/- Contracts of the functions that list the digits that show a cell. -/
import Derived.Test.YtfjgleimdaailaaOwn
import Derived.Test.YtfjgleimdaailaaDigit
import Derived.Test.YtfjgleimdaailaaFault
import Derived.Deep.RegionHeld3
import Derived.Lib.Hide
namespace Go.Proofs.Ytfjgleimdaailaa
open Go.RowKit

/-- Of the first k digits those that show a cell under a Fault. -/
def digitsP (dk lt c : Int) (k : Nat) : List Int := ((List.range k).filter fun d => shownZ dk lt (digC d) == c).map fun (d : Nat) => (d : Int)
/-- All digits that show a cell under a Fault. -/
def digitsL (dk lt c : Int) : List Int := digitsP dk lt c 10
theorem digitsP_succ (dk lt c : Int) (k : Nat) : digitsP dk lt c (k + 1) = if (shownZ dk lt (digC k) == c) = true then digitsP dk lt c k ++ [(k : Int)] else digitsP dk lt c k := by
  simp only [digitsP, List.range_succ, List.filter_append, List.map_append]
  split <;> simp_all [List.filter_cons]
theorem digitsP_le (dk lt c : Int) (k : Nat) : (digitsP dk lt c k).length ≤ k := by
  simp only [digitsP, List.length_map]
  exact Nat.le_trans (List.length_filter_le _ _) (by simp)

/-- A slice of the call's own is returned that holds the numbers L. -/
def RetInts (L : List Int) (w : World) (e : Ending) (w' : World) : Prop := ∃ ao cap, e = .returned (.slice ao L.length cap) ∧ ownsInts w' w.heap.size (.slice ao L.length cap) L ∧ Below w.heap.size w w'

theorem boxKeep {wr W w2 : World} {B : Nat} {c0 c1 : Option Value} (hB : B < wr.heap.size) (h : W.cell? ⟨B, 0, none⟩ = c0 ∧ W.cell? ⟨B, 1, none⟩ = c1 ∧ Below wr.heap.size wr W) (hb : Below W.heap.size W w2) :
    w2.cell? ⟨B, 0, none⟩ = c0 ∧ w2.cell? ⟨B, 1, none⟩ = c1 ∧ Below wr.heap.size wr w2 := by
  have := h.2.2.size
  refine ⟨(hb.cell (p := ⟨B, 0, none⟩) (by show B < _; omega)).trans h.1, (hb.cell (p := ⟨B, 1, none⟩) (by show B < _; omega)).trans h.2.1, belowThen h.2.2 hb⟩

theorem l3Digits_any (dk lt c : Int) (hd : inB 0 127 dk = true) (w : World) : Calls Try.prog 64 #[.agg #[.int .i64 dk, .int .i64 lt], .int .i64 c] w
    (RetInts (digitsL dk lt c) w) := by
  have hA1 := @cellAlloc; have hA2 := @frozenAlloc; have hA3 := @setCellAlloc; go_enter Try.func64, Try.ntmps64
  go_wp2
  go_loopw [5, 6] (fun v i wr => ∃ k : Nat, k ≤ 10 ∧ i = .int .i64 k ∧ ownsInts wr (w.heap.size + 1) v (digitsP dk lt c k) ∧ Below (w.heap.size + 1) (w.alloc (.cells #[.int .i64 dk, .int .i64 lt] 26)) wr) (fun _ i _ => 10 - (intOf i).toNat)
  case atStart => exact ⟨0, by omega, rfl, ownsInts_zero _ _ _, (Below.refl _ _).alloc (by simp) _⟩
  case round =>
    obtain ⟨k, hk, rfl, hown, hb⟩ := hrel
    have hsz : w.heap.size < wr.heap.size := by have := hb.size; simp at this; omega
    have hc0 : wr.cell? ⟨w.heap.size, 0, none⟩ = some (.int .i64 dk) := (hb.cell (p := ⟨w.heap.size, 0, none⟩) (by show w.heap.size < _; omega)).trans (World.cell?_alloc_at _ _ _ _ rfl)
    have hc1 : wr.cell? ⟨w.heap.size, 1, none⟩ = some (.int .i64 lt) := (hb.cell (p := ⟨w.heap.size, 1, none⟩) (by show w.heap.size < _; omega)).trans (World.cell?_alloc_at _ _ _ _ rfl)
    by_cases hlt : k < 10
    · by_cases ht : (shownZ dk lt (digC k) == c) = true
      all_goals
        try rw [Bool.not_eq_true] at ht
        go_wp2_with fail
        go_region_held3 (fun w' => w'.cell? ⟨w.heap.size, 0, none⟩ = some (.int .i64 dk) ∧ w'.cell? ⟨w.heap.size, 1, none⟩ = some (.int .i64 lt) ∧ Below wr.heap.size wr w') (first | exact ⟨hc0, hc1, (Below.refl _ _).drew⟩ | exact boxKeep hsz ‹_› ‹_›) (first | (go_at_call 69; refine (l2Digit_any k hlt _).mono ?_; rintro e w2 ⟨rfl, hb2⟩) | (go_at_call 45; refine (l3Shown_any _ _ _ _ hd (digC_in k)).mono ?_; rintro e w3 ⟨rfl, hb3⟩))
        rename_i hH
        have hb3w := hH.2.2
        have hz3 := hb3w.size
        have hle := digitsP_le dk lt c k
        have hown3 := ownsInts_below hown hb3w (Nat.le_refl _)
        have hbB : Below (w.heap.size + 1) (w.alloc (.cells #[.int .i64 dk, .int .i64 lt] 26)) w3 := hb.trans (hb3w.mono (by omega))
        have hsucc := digitsP_succ dk lt c k
        rw [ht] at hsucc
        have HS := Lib.hid hsucc
        clear hsucc hb hH
        go_wp2_with (at_builtin; refine wpAppendInt w3 (by rfl) _ _ (by rfl) (w.heap.size + 1) _ _ (by rfl) hown3 k (by rfl) (by omega) (by omega) ?_; intro ao cap w4 hown4 hb4)
        go_roundw
        case rel => exact ⟨k + 1, by omega, by go_num, by rw [HS.out]; first | exact hown4 | exact hown3, by first | exact hbB.trans hb4 | exact hbB⟩
        case measure => simp [intOf]; omega
    · have hk10 : k = 10 := by omega
      subst hk10
      obtain ⟨ao, cap, rfl, _⟩ := ownsInts_shape hown
      go_wp2
      go_ret
      exact ⟨ao, cap, rfl, ownsInts_le hown (by omega), (Go.Joins.below_alloc1 w _).trans (hb.mono (by omega))⟩
theorem digits_any (dk lt c : Int) (w : World) : Calls Try.prog 65 #[.agg #[.int .i64 dk, .int .i64 lt], .int .i64 c] w
    (RetInts (digitsL dk lt c) w) := by
  have hA1 := @cellAlloc; have hA2 := @frozenAlloc; have hA3 := @setCellAlloc; go_enter Try.func65, Try.ntmps65
  go_wp2_with (first | (go_at_call 77; refine (digitCells_any _).mono ?_; rintro e w1 ⟨rfl, hb1⟩))
  generalize hW : w.alloc (.cells #[.int .i64 dk, .int .i64 lt] 26) = W at hb1
  have hW1 : Below (w.heap.size + 1) (w.alloc (.cells #[.int .i64 dk, .int .i64 lt] 26)) w1 := by subst hW; simpa using hb1
  clear hb1 hW
  go_loopw [5, 9] (fun v i wr => ∃ k : Nat, k ≤ 10 ∧ i = .int .i64 k ∧ ownsInts wr (w.heap.size + 1) v (digitsP dk lt c k) ∧ Below (w.heap.size + 1) (w.alloc (.cells #[.int .i64 dk, .int .i64 lt] 26)) wr) (fun _ i _ => 10 - (intOf i).toNat)
  case atStart => exact ⟨0, by omega, rfl, ownsInts_nil _ _, hW1⟩
  case round =>
    clear hW1
    obtain ⟨k, hk, rfl, hown, hb⟩ := hrel
    have hsz : w.heap.size < wr.heap.size := by have := hb.size; simp at this; omega
    have hc0 : wr.cell? ⟨w.heap.size, 0, none⟩ = some (.int .i64 dk) := (hb.cell (p := ⟨w.heap.size, 0, none⟩) (by show w.heap.size < _; omega)).trans (World.cell?_alloc_at _ _ _ _ rfl)
    have hc1 : wr.cell? ⟨w.heap.size, 1, none⟩ = some (.int .i64 lt) := (hb.cell (p := ⟨w.heap.size, 1, none⟩) (by show w.heap.size < _; omega)).trans (World.cell?_alloc_at _ _ _ _ rfl)
    by_cases hlt : k < 10
    · have hdg := digAgg k hlt
      by_cases ht : (shownZ dk lt (digC k) == c) = true
      all_goals
        try rw [Bool.not_eq_true] at ht
        have hle := digitsP_le dk lt c k
        have hsucc := digitsP_succ dk lt c k
        rw [ht] at hsucc
        have HS := Lib.hid hsucc
        clear hsucc
        go_wp2_with (first | (go_at_call 48; refine (shown_any _ _ _ _).mono ?_; rintro e w3 ⟨rfl, hb3⟩; have hown3 := ownsInts_below hown hb3 (Nat.le_refl _); have hz3 := hb3.size) | (at_builtin; refine wpAppendInt w3 (by rfl) _ _ (by rfl) (w.heap.size + 1) _ _ (by rfl) hown3 k (by rfl) (by omega) (by omega) ?_; intro ao cap w4 hown4 hb4))
        go_roundw
        case rel => exact ⟨k + 1, by omega, by go_num, by rw [HS.out]; first | exact hown4 | exact hown3, by first | exact (hb.trans (hb3.mono (by omega))).trans hb4 | exact hb.trans (hb3.mono (by omega))⟩
        case measure => simp [intOf]; omega
    · have hk10 : k = 10 := by omega
      subst hk10
      obtain ⟨ao, cap, rfl, _⟩ := ownsInts_shape hown
      go_wp2
      go_ret
      exact ⟨ao, cap, rfl, ownsInts_le hown (by omega), (Go.Joins.below_alloc1 w _).trans (hb.mono (by omega))⟩
end Go.Proofs.Ytfjgleimdaailaa
