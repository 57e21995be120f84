/- Contracts of the functions that list the groups of digits that show the same cell. -/
import Derived.Test.YtfjgleimdaailaaOwnRows
import Derived.Test.YtfjgleimdaailaaDigits
namespace Go.Proofs.Ytfjgleimdaailaa
open Go.RowKit

/-- The digits that show the same cell as a digit. -/
def groupOf (dk lt : Int) (d : Nat) : List Int := digitsL dk lt (shownZ dk lt (digC d))
/-- The groups of the first k digits. -/
def groupsP (dk lt : Int) (k : Nat) : List (List Int) := ((List.range k).filter fun d => (groupOf dk lt d).getD 0 0 == (d : Int)).map (groupOf dk lt)
def groupsL (dk lt : Int) : List (List Int) := groupsP dk lt 10
theorem groupsP_succ (dk lt : Int) (k : Nat) : groupsP dk lt (k + 1) = if ((groupOf dk lt k).getD 0 0 == (k : Int)) = true then groupsP dk lt k ++ [groupOf dk lt k] else groupsP dk lt k := by
  simp only [groupsP, List.range_succ, List.filter_append, List.map_append]
  split <;> simp_all [List.filter_cons]
theorem groupsP_le (dk lt : Int) (k : Nat) : (groupsP dk lt k).length ≤ k := by
  simp only [groupsP, List.length_map]
  exact Nat.le_trans (List.length_filter_le _ _) (by simp)
theorem groupOf_le (dk lt : Int) (d : Nat) : (groupOf dk lt d).length ≤ 10 := digitsP_le _ _ _ 10
theorem groupOf_pos (dk lt : Int) (d : Nat) (hd : d < 10) : 0 < (groupOf dk lt d).length := by
  simp only [groupOf, digitsL, digitsP, List.length_map, List.length_pos_iff_exists_mem]
  exact ⟨d, by simp [hd]⟩
theorem groupsP_mem {dk lt : Int} {k : Nat} {g : List Int} (h : g ∈ groupsP dk lt k) (hk : k ≤ 10) : 0 < g.length ∧ g.length ≤ 10 := by
  simp only [groupsP, List.mem_map, List.mem_filter, List.mem_range] at h
  obtain ⟨d, ⟨hd, _⟩, rfl⟩ := h
  exact ⟨groupOf_pos dk lt d (by omega), groupOf_le dk lt d⟩

/-- A slice of slices of the call's own is returned. -/
def RetIntss (LL : List (List Int)) (w : World) (e : Ending) (w' : World) : Prop := ∃ ao cap, e = .returned (.slice ao LL.length cap) ∧ ownsIntss w' w.heap.size (.slice ao LL.length cap) LL ∧ Below w.heap.size w w'

theorem l3Groups_any (dk lt : Int) (hd : inB 0 127 dk = true) (w : World) : Calls Try.prog 61 #[.agg #[.int .i64 dk, .int .i64 lt]] w (RetIntss (groupsL dk lt) w) := by
  have hA1 := @cellAlloc; have hA2 := @frozenAlloc; have hA3 := @setCellAlloc; go_enter Try.func61, Try.ntmps61
  go_wp2
  go_loopw [3, 4] (fun v i wr => ∃ k : Nat, k ≤ 10 ∧ i = .int .i64 k ∧ ownsIntss wr (w.heap.size + 1) v (groupsP dk lt k) ∧ Below (w.heap.size + 1) (w.alloc (.cells #[.int .i64 dk, .int .i64 lt] 26)) wr) (fun _ i _ => 10 - (intOf i).toNat)
  case atStart => exact ⟨0, by omega, rfl, ownsIntss_zero _ _ _, (Below.refl _ _).alloc (by simp) _⟩
  case round =>
    obtain ⟨k, hk, rfl, hown, hb⟩ := hrel
    have hsz : w.heap.size < wr.heap.size := by have := hb.size; simp at this; omega
    have hc0 : wr.cell? ⟨w.heap.size, 0, none⟩ = some (.int .i64 dk) := (hb.cell (p := ⟨w.heap.size, 0, none⟩) (by show w.heap.size < _; omega)).trans (World.cell?_alloc_at _ _ _ _ rfl)
    have hc1 : wr.cell? ⟨w.heap.size, 1, none⟩ = some (.int .i64 lt) := (hb.cell (p := ⟨w.heap.size, 1, none⟩) (by show w.heap.size < _; omega)).trans (World.cell?_alloc_at _ _ _ _ rfl)
    by_cases hlt : k < 10
    · obtain ⟨x, hx⟩ : ∃ x, (groupOf dk lt k).getD 0 0 = x := ⟨_, rfl⟩
      have HX := Lib.hid hx
      clear hx
      by_cases ht : (x == (k : Int)) = true
      all_goals
        try rw [Bool.not_eq_true] at ht
        go_wp2_with fail
        go_region_held3 (fun w' => w'.cell? ⟨w.heap.size, 0, none⟩ = some (.int .i64 dk) ∧ w'.cell? ⟨w.heap.size, 1, none⟩ = some (.int .i64 lt) ∧ Below wr.heap.size wr w') (first | exact ⟨hc0, hc1, (Below.refl _ _).drew⟩ | exact boxKeep hsz ‹_› ‹_›) (first | (go_at_call 69; refine (l2Digit_any k hlt _).mono ?_; rintro e w2 ⟨rfl, hb2⟩) | (go_at_call 45; refine (l3Shown_any _ _ _ _ hd (digC_in k)).mono ?_; rintro e w3 ⟨rfl, hb3⟩) | (go_at_call 64; refine (l3Digits_any _ _ _ hd _).mono ?_; rintro e w4 ⟨ao, ca, rfl, hown4, hb4⟩))
        rename_i hH
        have hb4w := hH.2.2
        have hz4 := hb4w.size
        have hle := groupsP_le dk lt k
        have hgl := groupOf_le dk lt k
        have hgp := groupOf_pos dk lt k hlt
        have hownB := ownsIntss_below hown hb4w (Nat.le_refl _)
        have hbB : Below (w.heap.size + 1) (w.alloc (.cells #[.int .i64 dk, .int .i64 lt] 26)) w4 := hb.trans (hb4w.mono (by omega))
        have hsucc := groupsP_succ dk lt k
        rw [HX.out, ht] at hsucc
        have HS := Lib.hid hsucc
        have hownG : ownsInts w4 (w.heap.size + 1) (.slice ao (groupOf dk lt k).length ca) (groupOf dk lt k) := ownsInts_le hown4 (by have h3 := hb3.size; have h2 := hb2.size; simp at h2; omega)
        obtain ⟨ao', ca', he, hL | ⟨g, rfl, hBg, hg, hcap, hc⟩⟩ := ownsInts_shape hownG
        · rw [hL] at hgp; simp at hgp
        simp only [Value.slice.injEq] at he
        obtain ⟨rfl, -, -⟩ := he
        have hcell := hc 0 hgp
        rw [HX.out] at hcell
        clear hsucc hb hH hc hown4
        go_wp2_with (at_builtin; refine wpAppendInts w4 (by rfl) _ _ (by rfl) (w.heap.size + 1) _ _ (by rfl) hownB _ _ hownG (by rfl) (by omega) (by omega) ?_; intro bo cb w5 hown5 hb5)
        go_roundw
        case rel => exact ⟨k + 1, by omega, by go_num, by rw [HS.out]; first | exact hown5 | exact hownB, by first | exact hbB.trans hb5 | exact hbB⟩
        case measure => simp [intOf]; omega
    · have hk10 : k = 10 := by omega
      subst hk10
      obtain ⟨ao, cap, rfl, _⟩ := ownsIntss_shape hown
      go_wp2
      go_ret
      exact ⟨ao, cap, rfl, ownsIntss_below hown (Below.refl _ _) (by omega), (Go.Joins.below_alloc1 w _).trans (hb.mono (by omega))⟩
theorem groups_any (dk lt : Int) (w : World) : Calls Try.prog 62 #[.agg #[.int .i64 dk, .int .i64 lt]] w (RetIntss (groupsL dk lt) w) := by
  have hA1 := @cellAlloc; have hA2 := @frozenAlloc; have hA3 := @setCellAlloc; go_enter Try.func62, Try.ntmps62
  go_wp2_with (first | (go_at_call 77; refine (digitCells_any _).mono ?_; rintro e w1 ⟨rfl, hb1⟩))
  generalize hW : w.alloc (.cells #[.int .i64 dk, .int .i64 lt] 26) = W at hb1
  have hW1 : Below (w.heap.size + 1) (w.alloc (.cells #[.int .i64 dk, .int .i64 lt] 26)) w1 := by subst hW; simpa using hb1
  clear hb1 hW
  go_loopw [3, 8] (fun v i wr => ∃ k : Nat, k ≤ 10 ∧ i = .int .i64 k ∧ ownsIntss wr (w.heap.size + 1) v (groupsP dk lt k) ∧ Below (w.heap.size + 1) (w.alloc (.cells #[.int .i64 dk, .int .i64 lt] 26)) wr) (fun _ i _ => 10 - (intOf i).toNat)
  case atStart => exact ⟨0, by omega, rfl, ownsIntss_nil _ _, hW1⟩
  case round =>
    clear hW1
    obtain ⟨k, hk, rfl, hown, hb⟩ := hrel
    have hsz : w.heap.size < wr.heap.size := by have := hb.size; simp at this; omega
    have hc0 : wr.cell? ⟨w.heap.size, 0, none⟩ = some (.int .i64 dk) := (hb.cell (p := ⟨w.heap.size, 0, none⟩) (by show w.heap.size < _; omega)).trans (World.cell?_alloc_at _ _ _ _ rfl)
    have hc1 : wr.cell? ⟨w.heap.size, 1, none⟩ = some (.int .i64 lt) := (hb.cell (p := ⟨w.heap.size, 1, none⟩) (by show w.heap.size < _; omega)).trans (World.cell?_alloc_at _ _ _ _ rfl)
    by_cases hlt : k < 10
    · obtain ⟨x, hx⟩ : ∃ x, (groupOf dk lt k).getD 0 0 = x := ⟨_, rfl⟩
      have HX := Lib.hid hx
      clear hx
      have hdg := digAgg k hlt
      by_cases ht : (x == (k : Int)) = true
      all_goals
        try rw [Bool.not_eq_true] at ht
        go_wp2_with fail
        go_region_held3 (fun w' => w'.cell? ⟨w.heap.size, 0, none⟩ = some (.int .i64 dk) ∧ w'.cell? ⟨w.heap.size, 1, none⟩ = some (.int .i64 lt) ∧ Below wr.heap.size wr w') (first | exact ⟨hc0, hc1, (Below.refl _ _).drew⟩ | exact boxKeep hsz ‹_› ‹_›) (first | (go_at_call 48; refine (shown_any _ _ _ _).mono ?_; rintro e w3 ⟨rfl, hb3⟩) | (go_at_call 65; refine (digits_any _ _ _ _).mono ?_; rintro e w4 ⟨ao, ca, rfl, hown4, hb4⟩))
        rename_i hH
        have hb4w := hH.2.2
        have hz4 := hb4w.size
        have hle := groupsP_le dk lt k
        have hgl := groupOf_le dk lt k
        have hgp := groupOf_pos dk lt k hlt
        have hownB := ownsIntss_below hown hb4w (Nat.le_refl _)
        have hbB : Below (w.heap.size + 1) (w.alloc (.cells #[.int .i64 dk, .int .i64 lt] 26)) w4 := hb.trans (hb4w.mono (by omega))
        have hsucc := groupsP_succ dk lt k
        rw [HX.out, ht] at hsucc
        have HS := Lib.hid hsucc
        have hownG : ownsInts w4 (w.heap.size + 1) (.slice ao (groupOf dk lt k).length ca) (groupOf dk lt k) := ownsInts_le hown4 (by have h3 := hb3.size; simp at h3; omega)
        obtain ⟨ao', ca', he, hL | ⟨g, rfl, hBg, hg, hcap, hc⟩⟩ := ownsInts_shape hownG
        · rw [hL] at hgp; simp at hgp
        simp only [Value.slice.injEq] at he
        obtain ⟨rfl, -, -⟩ := he
        have hcell := hc 0 hgp
        rw [HX.out] at hcell
        clear hsucc hb hH hc hown4
        go_wp2_with (at_builtin; refine wpAppendInts w4 (by rfl) _ _ (by rfl) (w.heap.size + 1) _ _ (by rfl) hownB _ _ hownG (by rfl) (by omega) (by omega) ?_; intro bo cb w5 hown5 hb5)
        go_roundw
        case rel => exact ⟨k + 1, by omega, by go_num, by rw [HS.out]; first | exact hown5 | exact hownB, by first | exact hbB.trans hb5 | exact hbB⟩
        case measure => simp [intOf]; omega
    · have hk10 : k = 10 := by omega
      subst hk10
      obtain ⟨ao, cap, rfl, _⟩ := ownsIntss_shape hown
      go_wp2
      go_ret
      exact ⟨ao, cap, rfl, ownsIntss_below hown (Below.refl _ _) (by omega), (Go.Joins.below_alloc1 w _).trans (hb.mono (by omega))⟩
end Go.Proofs.Ytfjgleimdaailaa
