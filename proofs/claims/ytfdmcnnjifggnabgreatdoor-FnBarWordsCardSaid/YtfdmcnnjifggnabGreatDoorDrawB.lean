/- The draws of FnBarWords, with loops: short texts, short lists and numbers, whatever the code. -/
import Derived.Test.YtfdmcnnjifggnabGreatDoorDrawW
import Derived.Test.YtfdmcnnjifggnabGreatDoorRowW
import Derived.Lib.Hide
namespace Go.Proofs.YtfdmcnnjifggnabGreatDoor
open Go.RowKit

theorem DrawRowOfWord_any (ao : Option Addr) (n cap : Nat) (w : World) (h : RdY w ao n) : Calls Tryz.prog 5 #[.slice ao n cap] w fun e w' => RetTxt 30 e ∧ Below w.heap.size w w' := by
  have hc0 := Cur_new w ao n cap 44 h
  go_enter Tryz.func5, Tryz.ntmps5
  go_wp2_with (go_at_call 34; refine (wordOfO _ hc0 (by omega)).mono ?_; rintro e w1 ⟨⟨s, hs, rfl⟩, hc1⟩)
  go_ret
  exact ⟨⟨s, hs, rfl⟩, CurO.new hc1⟩
theorem DrawIsWord_any (ao : Option Addr) (n cap : Nat) (w : World) (h : RdY w ao n) : Calls Tryz.prog 67 #[.slice ao n cap] w fun e w' => RetTxt 30 e ∧ Below w.heap.size w w' := by
  have hc0 := Cur_new w ao n cap 44 h
  go_enter Tryz.func67, Tryz.ntmps67
  go_wp2_with (go_at_call 34; refine (wordOfO _ hc0 (by omega)).mono ?_; rintro e w1 ⟨⟨s, hs, rfl⟩, hc1⟩)
  go_ret
  exact ⟨⟨s, hs, rfl⟩, CurO.new hc1⟩
theorem DrawWordLit_any (ao : Option Addr) (n cap : Nat) (w : World) (h : RdY w ao n) : Calls Tryz.prog 27 #[.slice ao n cap] w fun e w' => RetTxt 30 e ∧ Below w.heap.size w w' := by
  have HL := Lib.hid (DrawIsWord_any ao n cap w h)
  go_enter Tryz.func27, Tryz.ntmps27
  go_wp2_with (go_at_call 67; refine HL.out.mono ?_; rintro e w1 ⟨⟨s, hs, rfl⟩, hb1⟩)
  go_ret
  exact ⟨⟨s, hs, rfl⟩, hb1⟩
theorem DrawWordChanges_any (ao : Option Addr) (n cap : Nat) (w : World) (h : RdY w ao n) : Calls Tryz.prog 31 #[.slice ao n cap] w fun e w' => (∃ s t : ByteArray, s.size ≤ 30 ∧ t.size ≤ 30 ∧ e = .returned (.tuple #[.string s, .string t])) ∧ Below w.heap.size w w' := by
  have hc0 := Cur_new w ao n cap 44 h
  go_enter Tryz.func31, Tryz.ntmps31
  go_wp2_with (go_at_call 34; first
    | (refine (wordOfO _ hc1 (by omega)).mono ?_; rintro e w2 ⟨⟨t, ht, rfl⟩, hc2⟩)
    | (refine (wordOfO _ hc0 (by omega)).mono ?_; rintro e w1 ⟨⟨s, hs, rfl⟩, hc1⟩))
  go_ret2
  exact ⟨⟨s, t, hs, ht, rfl⟩, CurO.new hc2⟩
set_option maxHeartbeats 800000 in
theorem DrawLetterCell_any (ao : Option Addr) (n cap : Nat) (w : World) (h : RdY w ao n) : Calls Tryz.prog 21 #[.slice ao n cap] w fun e w' => RetTxt 30 e ∧ Below w.heap.size w w' := by
  have hc0 := Cur_new w ao n cap 44 h
  go_enter Tryz.func21, Tryz.ntmps21
  go_wp2_with (first
    | (go_at_call 39; refine (oneO _ hc0 (by omega)).mono ?_; rintro e w1 ⟨⟨q, rfl⟩, hc1⟩)
    | (go_at_call 45; refine (pickO _ hc1 (by omega)).mono ?_; rintro e w2 ⟨⟨x, hx, hxn, rfl⟩, hc2⟩; have hx16 := hxn (by decide); have hx6 : ((x : Int) + 1).toNat = x + 1 := (by omega))
    | (go_at_call 54; refine (ofA _ _ _ hc1 (by omega) (by rfl) (by decide) (by decide)).mono ?_; rintro e w4 ⟨⟨v, hv, rfl⟩, hc4⟩; have hv2 : ∃ t : ByteArray, t.size ≤ 7 ∧ v = .string t := (by simp at hv; rcases hv with rfl | rfl | rfl | rfl <;> exact ⟨_, by decide, rfl⟩); obtain ⟨t, ht, rfl⟩ := hv2))
  all_goals go_ret
  all_goals first
    | exact ⟨⟨t, by omega, rfl⟩, CurO.new hc4⟩
    | exact ⟨⟨_, by rw [ByteArray.size_extract]; omega, rfl⟩, CurO.new hc2⟩
theorem DrawLetterOf_any (ao : Option Addr) (n cap : Nat) (w : World) (h : RdY w ao n) : Calls Tryz.prog 24 #[.slice ao n cap] w fun e w' => (∃ x : Int, e = .returned (.int .i64 x)) ∧ Below w.heap.size w w' := by
  have hc0 := Cur_new w ao n cap 44 h
  have hO := @l10Of_any
  go_enter Tryz.func24, Tryz.ntmps24
  go_wp2_with (first
    | (go_at_call 39; refine (oneO _ hc0 (by omega)).mono ?_; rintro e w1 ⟨⟨q, rfl⟩, hc1⟩)
    | (go_at_call 63; refine (cellO hc1 (by omega)).mono ?_; rintro e w2 ⟨⟨x, rfl⟩, hc2⟩)
    | (go_at_call 45; refine (pickO _ hc1 (by omega)).mono ?_; rintro e w3 ⟨⟨x, hx, hxn, rfl⟩, hc3⟩; have hx16 := hxn (by decide))
    | (go_at_call 61; refine (hO x (by omega) _).mono ?_; rintro e w2 ⟨rfl, hb2⟩; have hc2 := hc3.then hb2))
  all_goals go_ret
  all_goals exact ⟨⟨_, rfl⟩, CurO.new hc2⟩
set_option maxHeartbeats 1600000 in
theorem DrawNumberOfWord_any (ao : Option Addr) (n cap : Nat) (w : World) (h : RdY w ao n) : Calls Tryz.prog 15 #[.slice ao n cap] w fun e w' => RetTxt 30 e ∧ Below w.heap.size w w' := by
  have hc0 := Cur_new w ao n cap 44 h
  go_enter Tryz.func15, Tryz.ntmps15
  go_wp2_with (first
    | (go_at_call 39; refine (oneO _ hc0 (by omega)).mono ?_; rintro e w1 ⟨⟨q, rfl⟩, hc1⟩)
    | (go_at_call 34; refine (wordOfO _ hc1 (by omega)).mono ?_; rintro e w2 ⟨⟨s, hs, rfl⟩, hc2⟩)
    | (go_at_call 45; refine (pickO _ hc1 (by omega)).mono ?_; rintro e w3 ⟨⟨x, hx, hxn, rfl⟩, hc3⟩; have hx6 := hxn (by decide)))
  · go_ret
    exact ⟨⟨s, hs, rfl⟩, CurO.new hc2⟩
  · clear hc1
    go_loopw [4, 5] (fun v i wr => ∃ (k : Nat) (s : ByteArray), k ≤ 6 ∧ s.size + k ≤ 6 ∧ i = .int .i64 k ∧ v = .string s ∧ CurO w wr w.heap.size (100 - 2 * k)) (fun _ i _ => (intOf i).toNat)
    case atStart => exact ⟨x + 1, ⟨#[]⟩, by omega, by show 0 + (x + 1) ≤ 6; omega, by go_num, rfl, hc3.mono (by omega)⟩
    case round =>
      obtain ⟨k, s, hk, hsk, rfl, rfl, hcu⟩ := hrel
      clear hc3
      by_cases h0 : k = 0
      · subst h0
        go_wp2
        go_ret
        exact ⟨⟨s, by omega, rfl⟩, CurO.new hcu⟩
      · have hpos : (0 : Int) < (k : Int) := by omega
        go_wp2_with (go_at_call 54; refine (ofA _ _ _ hcu (by omega) (by rfl) (by decide) (by decide)).mono ?_; rintro e w4 ⟨⟨v, hv, rfl⟩, hc4⟩; have hv2 : ∃ t : ByteArray, t.size = 1 ∧ v = .string t := (by simp at hv; rcases hv with rfl | rfl | rfl | rfl <;> exact ⟨_, by decide, rfl⟩); obtain ⟨t, ht, rfl⟩ := hv2)
        go_roundw
        case rel => exact ⟨k - 1, s ++ t, by omega, by rw [ByteArray.size_append]; omega, by go_num, rfl, hc4.mono (by omega)⟩
        case measure => simp [intOf]; omega
set_option maxHeartbeats 1600000 in
theorem DrawMirroredWord_any (ao : Option Addr) (n cap : Nat) (w : World) (h : RdY w ao n) : Calls Tryz.prog 18 #[.slice ao n cap] w fun e w' => RetTxt 30 e ∧ Below w.heap.size w w' := by
  have hc0 := Cur_new w ao n cap 44 h
  go_enter Tryz.func18, Tryz.ntmps18
  go_wp2_with (first
    | (go_at_call 39; refine (oneO _ hc0 (by omega)).mono ?_; rintro e w1 ⟨⟨q, rfl⟩, hc1⟩)
    | (go_at_call 34; refine (wordOfO _ hc1 (by omega)).mono ?_; rintro e w2 ⟨⟨s, hs, rfl⟩, hc2⟩)
    | (go_at_call 45; refine (pickO _ hc1 (by omega)).mono ?_; rintro e w3 ⟨⟨x, hx, hxn, rfl⟩, hc3⟩; have hx6 := hxn (by decide)))
  · go_ret
    exact ⟨⟨s, hs, rfl⟩, CurO.new hc2⟩
  · clear hc1
    go_loopw [4, 5] (fun v i wr => ∃ (k : Nat) (s : ByteArray), k ≤ 6 ∧ s.size + k ≤ 6 ∧ i = .int .i64 k ∧ v = .string s ∧ CurO w wr w.heap.size (100 - 2 * k)) (fun _ i _ => (intOf i).toNat)
    case atStart => exact ⟨x, ⟨#[]⟩, by omega, by show 0 + (x) ≤ 6; omega, by go_num, rfl, hc3.mono (by omega)⟩
    case round =>
      obtain ⟨k, s, hk, hsk, rfl, rfl, hcu⟩ := hrel
      clear hc3
      by_cases h0 : k = 0
      · subst h0
        go_wp2
        go_ret
        exact ⟨⟨s, by omega, rfl⟩, CurO.new hcu⟩
      · have hpos : (0 : Int) < (k : Int) := by omega
        go_wp2_with (go_at_call 54; refine (ofA _ _ _ hcu (by omega) (by rfl) (by decide) (by decide)).mono ?_; rintro e w4 ⟨⟨v, hv, rfl⟩, hc4⟩; have hv2 : ∃ t : ByteArray, t.size = 1 ∧ v = .string t := (by simp at hv; rcases hv with rfl | rfl | rfl | rfl | rfl | rfl <;> exact ⟨_, by decide, rfl⟩); obtain ⟨t, ht, rfl⟩ := hv2)
        go_roundw
        case rel => exact ⟨k - 1, s ++ t, by omega, by rw [ByteArray.size_append]; omega, by go_num, rfl, hc4.mono (by omega)⟩
        case measure => simp [intOf]; omega
set_option maxHeartbeats 1600000 in
theorem DrawWordOfNumber_any (ao : Option Addr) (n cap : Nat) (w : World) (h : RdY w ao n) : Calls Tryz.prog 12 #[.slice ao n cap] w fun e w' => (∃ x : Int, e = .returned (.int .i64 x)) ∧ Below w.heap.size w w' := by
  have hc0 := Cur_new w ao n cap 44 h
  go_enter Tryz.func12, Tryz.ntmps12
  go_wp2_with (first
    | (go_at_call 39; refine (oneO _ hc0 (by omega)).mono ?_; rintro e w1 ⟨⟨q, rfl⟩, hc1⟩)
    | (go_at_call 44; refine (numberO hc1 (by omega)).mono ?_; rintro e w2 ⟨⟨z, rfl⟩, hc2⟩)
    | (go_at_call 45; refine (pickO _ hc1 (by omega)).mono ?_; rintro e w3 ⟨⟨x, hx, hxn, rfl⟩, hc3⟩; have hx6 := hxn (by decide)))
  · go_ret
    exact ⟨⟨z, rfl⟩, CurO.new hc2⟩
  · clear hc1
    go_loopw [4, 5] (fun v i wr => ∃ (k : Nat) (y : Int), k ≤ 6 ∧ i = .int .i64 k ∧ v = .int .i64 y ∧ CurO w wr w.heap.size (100 - 2 * k)) (fun _ i _ => (intOf i).toNat)
    case atStart => exact ⟨x + 1, 0, by omega, by go_num, rfl, hc3.mono (by omega)⟩
    case round =>
      obtain ⟨k, y, hk, rfl, rfl, hcu⟩ := hrel
      clear hc3
      by_cases h0 : k = 0
      · subst h0
        go_wp2
        go_ret
        exact ⟨⟨y, rfl⟩, CurO.new hcu⟩
      · have hpos : (0 : Int) < (k : Int) := by omega
        go_wp2_with (go_at_call 46; refine (amongA _ _ _ hcu (by omega) (by rfl) (by decide) (by decide) (by rfl)).mono ?_; rintro e w4 ⟨⟨z, hz, rfl⟩, hc4⟩)
        go_roundw
        case rel => exact ⟨k - 1, _, by omega, by go_num, rfl, hc4.mono (by omega)⟩
        case measure => simp [intOf]; omega
end Go.Proofs.YtfdmcnnjifggnabGreatDoor
