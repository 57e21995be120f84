/- Contracts of the law's own helpers on slices of Slots: copies, equality, marks. -/
import Derived.Test.YtjcbffkdemadnaaSlot
import Derived.Lib.Hide
import Derived.Deep.RegionHeld3
namespace Go.Proofs.Ytjcbffkdemadnaa
open Go.RowKit

/-- The first j Slots are copied, the others are empty. -/
def copyS (l : List (Int × Int)) (j : Nat) : List (Int × Int) := l.take j ++ List.replicate (l.length - j) (0, 0)
theorem copyS_length (l : List (Int × Int)) (j : Nat) (hj : j ≤ l.length) : (copyS l j).length = l.length := by simp [copyS]; omega
theorem copyS_zero (l : List (Int × Int)) : copyS l 0 = List.replicate l.length (0, 0) := by simp [copyS]
theorem copyS_all (l : List (Int × Int)) : copyS l l.length = l := by simp [copyS]
theorem setAt_succ (m : Nat → (Int × Int)) (r : Nat → (Int × Int)) (n j : Nat) (hj : j < n) : ((List.range n).map fun i => if i < j then m i else r i).set j (m j) = (List.range n).map fun i => if i < j + 1 then m i else r i := by
  apply List.ext_getElem?
  intro i
  rw [List.getElem?_set]
  by_cases h : j = i
  · subst h
    simp [hj]
  · rw [if_neg h]
    by_cases hi : i < n
    · simp [hi]
      by_cases h2 : i < j
      · rw [if_pos h2, if_pos (by omega)]
      · rw [if_neg h2, if_neg (by omega)]
    · simp [hi]
theorem copyS_map (l : List (Int × Int)) (j : Nat) (hj : j ≤ l.length) : copyS l j = (List.range l.length).map fun i => if i < j then l.getD i (0, 0) else (0, 0) := by
  apply List.ext_getElem?
  intro i
  unfold copyS
  by_cases hi : i < l.length
  · by_cases h2 : i < j
    · rw [List.getElem?_append_left (by simp; omega), List.getElem?_take_of_lt h2]
      simp [hi, h2]
    · have h1 : (l.take j).length = j := by simp; omega
      rw [List.getElem?_append_right (by omega), h1, List.getElem?_replicate, if_pos (by omega)]
      simp [hi, h2]
  · rw [List.getElem?_eq_none (by simp; omega), List.getElem?_eq_none (by simp; omega)]
theorem copyS_succ (l : List (Int × Int)) (j : Nat) (hj : j < l.length) : (copyS l j).set j (l.getD j (0, 0)) = copyS l (j + 1) := by
  rw [copyS_map l j (by omega), copyS_map l (j + 1) (by omega), setAt_succ (fun i => l.getD i (0, 0)) (fun _ => (0, 0)) _ _ hj]
/-- The first j Slots are marked. -/
def marksQ (l : List (Int × Int)) (j : Nat) : List (Int × Int) := (List.range l.length).map fun i => if i < j then ((1 : Int) + (i * 2 : Nat), (2 : Int) + (i * 2 : Nat)) else l.getD i (0, 0)
def marksT (n : Nat) : List (Int × Int) := (List.range n).map fun i => ((1 : Int) + (i * 2 : Nat), (2 : Int) + (i * 2 : Nat))
theorem marksQ_length (l : List (Int × Int)) (j : Nat) : (marksQ l j).length = l.length := by simp [marksQ]
theorem marksT_length (n : Nat) : (marksT n).length = n := by simp [marksT]
theorem marksQ_zero (l : List (Int × Int)) : marksQ l 0 = l := by
  apply List.ext_getElem?
  intro i
  by_cases hi : i < l.length
  · simp [marksQ, hi]
  · rw [List.getElem?_eq_none (by rw [marksQ_length]; omega), List.getElem?_eq_none (by omega)]
theorem marksQ_all (l : List (Int × Int)) : marksQ l l.length = marksT l.length := by
  unfold marksQ marksT
  apply List.map_congr_left
  intro i hi
  rw [if_pos (List.mem_range.1 hi)]
theorem marksQ_succ (l : List (Int × Int)) (j : Nat) (hj : j < l.length) : (marksQ l j).set j ((1 : Int) + (j * 2 : Nat), (2 : Int) + (j * 2 : Nat)) = marksQ l (j + 1) :=
  setAt_succ (fun i => ((1 : Int) + (i * 2 : Nat), (2 : Int) + (i * 2 : Nat))) (fun i => l.getD i (0, 0)) _ _ hj
theorem marksT_getD (n j : Nat) (hj : j < n) : (marksT n).getD j (0, 0) = ((1 : Int) + (j * 2 : Nat), (2 : Int) + (j * 2 : Nat)) := by simp [marksT, hj]
theorem madeCells_two (n : Nat) : (madeCells (Value.agg #[.int .i64 0, .int .i64 0]).cells (n * 2)).toList = cellsS (List.replicate n (0, 0)) := by
  apply List.ext_getElem?
  intro i
  have hl := cellsS_length (List.replicate n ((0 : Int), (0 : Int)))
  rw [List.length_replicate] at hl
  by_cases hi : i < n * 2
  · obtain ⟨h0, h1⟩ := cellsS_at (List.replicate n ((0 : Int), (0 : Int))) (i / 2) (by simp; omega)
    have hg : (List.replicate n ((0 : Int), (0 : Int))).getD (i / 2) (0, 0) = (0, 0) := by simp [show i / 2 < n by omega]
    rw [hg] at h0 h1
    unfold madeCells
    rcases Nat.mod_two_eq_zero_or_one i with h | h
    · rw [show i / 2 * 2 = i by omega] at h0
      rw [h0]
      simp [hi, Value.cells, h]
    · rw [show i / 2 * 2 + 1 = i by omega] at h1
      rw [h1]
      simp [hi, Value.cells, h]
  · rw [List.getElem?_eq_none (by unfold madeCells; simp; omega), List.getElem?_eq_none (by omega)]
theorem keepS4 {wr W w2 : World} {b1 o1 b2 o2 : Nat} {x1 y1 x2 y2 : Option Value} (hB1 : b1 < wr.heap.size) (hB2 : b2 < wr.heap.size)
    (h : W.cell? ⟨b1, o1, none⟩ = x1 ∧ W.cell? ⟨b1, o1 + 1, none⟩ = y1 ∧ W.cell? ⟨b2, o2, none⟩ = x2 ∧ W.cell? ⟨b2, o2 + 1, none⟩ = y2 ∧ Below wr.heap.size wr W) (hb : Below W.heap.size W w2) :
    w2.cell? ⟨b1, o1, none⟩ = x1 ∧ w2.cell? ⟨b1, o1 + 1, none⟩ = y1 ∧ w2.cell? ⟨b2, o2, none⟩ = x2 ∧ w2.cell? ⟨b2, o2 + 1, none⟩ = y2 ∧ Below wr.heap.size wr w2 := by
  have hs := h.2.2.2.2.size
  have k1 : b1 < W.heap.size := by omega
  have k2 : b2 < W.heap.size := by omega
  exact ⟨(hb.cell (p := ⟨b1, o1, none⟩) k1).trans h.1, (hb.cell (p := ⟨b1, o1 + 1, none⟩) k1).trans h.2.1, (hb.cell (p := ⟨b2, o2, none⟩) k2).trans h.2.2.1, (hb.cell (p := ⟨b2, o2 + 1, none⟩) k2).trans h.2.2.2.1, belowThen h.2.2.2.2 hb⟩
/-- A copy of the Slots is returned. -/
def RetCopyS (l : List (Int × Int)) (n : Nat) (w : World) (e : Ending) (w' : World) : Prop := ∃ g, e = .returned (.slice (some ⟨g, 0, none⟩) n n) ∧ ownsS w' w.heap.size (.slice (some ⟨g, 0, none⟩) n n) l ∧ Below w.heap.size w w'
set_option maxHeartbeats 800000 in
theorem toSlotS_any (ao : Option Addr) (n cap : Nat) (l : List (Int × Int)) (w : World) (hr : RdS w ao l) (hn : l.length = n) (hm : n ≤ 1048576) :
    Calls Try.prog 7 #[.slice ao n cap] w (RetCopyS l n w) := by
  obtain ⟨i0, hi, hz0, hz1, hz2⟩ := info_parts infoSlot
  have hA1 := @cellAlloc; have hA2 := @frozenAlloc; have hA3 := @setCellAlloc; go_enter Try.func7, Try.ntmps7
  go_wp2_with (at_make; refine wpList_make_full _ (by rfl) _ _ _ (by rfl) w.heap.size 48 i0 (.agg #[.int .i64 0, .int .i64 0]) 2 Try.underlying24 hi hz0 hz1 _ _ _ _ n (by rfl) (by rfl) (by rfl) (by rfl) (by rw [hz2]; omega) (by unfold maxLen; omega) (Nat.le_refl _) ?_; intro w1 hown1 hg1)
  have hown : ownsS w1 w.heap.size (.slice (some ⟨w.heap.size, 0, none⟩) n n) (copyS l 0) := by
    rw [copyS_zero, hn]
    refine .inl ?_
    have e1 : (madeCells (Value.agg #[.int .i64 0, .int .i64 0]).cells (n * 2)).toList = cellsS (List.replicate n (0, 0)) := by
      have h := madeCells_two n
      exact h
    rw [e1] at hown1
    simpa using hown1
  have hb1 : Below w.heap.size w w1 := (Below.refl _ _).grown hg1 (Nat.le_refl _) (fun k hk => by cases hk)
  clear hown1 hg1 hi hz0 hz1 hz2
  obtain ⟨g, hg⟩ : ∃ g, w.heap.size = g := ⟨_, rfl⟩
  rw [hg] at hown hb1 ⊢
  have HG := Lib.hid hg
  clear hg
  go_loopw [4] (fun i wr => ∃ k : Nat, k ≤ n ∧ i = .int .i64 k ∧ ownsS wr g (.slice (some ⟨g, 0, none⟩) n n) (copyS l k) ∧ Below g w wr) (fun i _ => n - (intOf i).toNat)
  case atStart => exact ⟨0, by omega, rfl, hown, hb1⟩
  case round =>
    obtain ⟨k, hk, rfl, hownr, hbw⟩ := hrel
    by_cases hlt : k < n
    · have hr' := RdS_below hr (by rw [HG.out]; exact hbw)
      rcases hr' with h | ⟨b1, o1, rfl, hb1', hc1⟩
      · rw [h] at hn; simp at hn; omega
      obtain ⟨hx, hy⟩ := hc1 k (by omega)
      have hsucc := copyS_succ l k (by omega)
      have hlen := copyS_length l k (by omega)
      have HC := Lib.hid (toSlot_any (l.getD k (0, 0)))
      generalize l.getD k (0, 0) = x at hx hy hsucc HC
      have HS := Lib.hid hsucc
      have HL := Lib.hid hlen
      have HN := Lib.hid hn
      clear hc1 hr hown hn hlen hsucc
      go_wp2_with (go_at_call 30; go_loud (refine (HC.out _).mono ?_; rintro e w2 ⟨rfl, hb2⟩; have hown2 := ownsS_below hownr hb2 (Nat.le_refl _); have hbw2 : Below g w w2 := hbw.trans (hb2.mono (by rw [← HG.out]; exact hbw.size)); obtain ⟨hcell0, hcell1, hfr0, hfr1, -, hgl⟩ := ownsS_at hown2 k (by rw [HL.out, HN.out]; omega)))
      have hput := ownsS_put hown2 (by rw [HL.out, HN.out]) k (by rw [HL.out, HN.out]; omega) x
      rw [HS.out] at hput
      go_roundw
      case rel => exact ⟨k + 1, by omega, by go_num, hput, (hbw2.setCell (Nat.le_refl _) _).setCell (Nat.le_refl _) _⟩
      case measure => simp [intOf]; omega
    · have hkn : k = n := by omega
      subst hkn
      go_wp2
      go_ret
      exact ⟨_, rfl, by rw [← hn, copyS_all] at hownr; rw [HG.out, ← hn]; exact hownr, by rw [HG.out]; exact hbw⟩
set_option maxHeartbeats 800000 in
theorem eqSlotS_same (ao bo : Option Addr) (n ca cb : Nat) (l : List (Int × Int)) (w : World) (ha : RdS w ao l) (hb : RdS w bo l) (hn : l.length = n) (hm : n ≤ maxLen) :
    Calls Try.prog 9 #[.slice ao n ca, .slice bo n cb] w fun e w' => e = .returned (.bool true) ∧ Below w.heap.size w w' := by
  unfold maxLen at hm
  have hA1 := @cellAlloc; have hA2 := @frozenAlloc; have hA3 := @setCellAlloc; go_enter Try.func9, Try.ntmps9
  go_wp2
  go_loopw [5] (fun i wr => ∃ k : Nat, k ≤ n ∧ i = .int .i64 k ∧ Below w.heap.size w wr) (fun i _ => n - (intOf i).toNat)
  case atStart => exact ⟨0, by omega, rfl, Below.refl _ _⟩
  case round =>
    obtain ⟨k, hk, rfl, hbw⟩ := hrel
    by_cases hlt : k < n
    · have ha' := RdS_below ha hbw
      have hb' := RdS_below hb hbw
      rcases ha' with h | ⟨b1, o1, rfl, hb1, hc1⟩
      · rw [h] at hn; simp at hn; omega
      rcases hb' with h | ⟨b2, o2, rfl, hb2, hc2⟩
      · rw [h] at hn; simp at hn; omega
      obtain ⟨hx0, hx1⟩ := hc1 k (by omega)
      obtain ⟨hy0, hy1⟩ := hc2 k (by omega)
      have HC := Lib.hid (eqSlot_same (l.getD k (0, 0)))
      generalize l.getD k (0, 0) = x at hx0 hy0 hx1 hy1 HC
      obtain ⟨z0, z1⟩ := x
      simp only at hx0 hx1 hy0 hy1 HC
      clear hc1 hc2 ha hb hn
      go_wp2_with fail
      go_region_held3 (fun w' => w'.cell? ⟨b1, o1 + k * 2, none⟩ = some (.int .i64 z0) ∧ w'.cell? ⟨b1, o1 + k * 2 + 1, none⟩ = some (.int .i64 z1) ∧ w'.cell? ⟨b2, o2 + k * 2, none⟩ = some (.int .i64 z0) ∧ w'.cell? ⟨b2, o2 + k * 2 + 1, none⟩ = some (.int .i64 z1) ∧ Below wr.heap.size wr w') (first | assumption | exact ⟨hx0, hx1, hy0, hy1, (Below.refl _ _).drew⟩ | exact keepS4 hb1 hb2 ‹_› ‹_›) (first | (go_at_call 40; refine (HC.out _).mono ?_; rintro e w2 ⟨rfl, hb5⟩))
      rename_i hH
      have hbn := hH.2.2.2.2
      clear hH
      go_wp2
      go_roundw
      case rel => exact ⟨k + 1, by omega, by go_num, belowThen hbw hbn⟩
      case measure => simp [intOf]; omega
    · go_wp2
      go_ret
      exact ⟨rfl, hbw⟩
set_option maxHeartbeats 800000 in
theorem markSlotS_only (B : Nat) (g n cap : Nat) (l : List (Int × Int)) (w : World) (ho : ownsS w B (.slice (some ⟨g, 0, none⟩) n cap) l) (hn : l.length = n) (hm : n ≤ 1048576) :
    Calls Try.prog 10 #[.slice (some ⟨g, 0, none⟩) n cap, .int .i64 1] w fun e w' => e = .returned (.int .i64 (1 + (n * 2 : Nat))) ∧ ownsS w' B (.slice (some ⟨g, 0, none⟩) n cap) (marksT n) ∧ OnlyB n g w w' ∧ Below B w w' := by
  have HN := Lib.hid hn
  clear hn
  go_enter Try.func10, Try.ntmps10
  go_wp2
  go_loopw [1, 5] (fun m i wr => ∃ k : Nat, k ≤ n ∧ i = .int .i64 k ∧ m = .int .i64 (1 + (k * 2 : Nat)) ∧ ownsS wr B (.slice (some ⟨g, 0, none⟩) n cap) (marksQ l k) ∧ OnlyB n g w wr ∧ Below B w wr) (fun _ i _ => n - (intOf i).toNat)
  case atStart => exact ⟨0, by omega, rfl, by simp, by rw [marksQ_zero]; exact ho, ⟨rfl, fun _ _ => rfl⟩, Below.refl _ _⟩
  case round =>
    obtain ⟨k, hle, rfl, rfl, hown, hon, hbw⟩ := hrel
    by_cases hlt : k < n
    · have hlen := (marksQ_length l k).trans HN.out
      obtain ⟨hcell0, hcell1, hfr0, hfr1, hBg, hgl⟩ := ownsS_at hown k (by omega)
      have hset := ownsS_put hown (by omega) k (by omega) ((1 : Int) + (k * 2 : Nat), (2 : Int) + (k * 2 : Nat))
      rw [marksQ_succ l k (by rw [HN.out]; omega)] at hset
      have hos := OnlyB_set (OnlyB_set hon (by omega) (k * 2) (.int .i64 (1 + (k * 2 : Nat)))) (by omega) (k * 2 + 1) (.int .i64 (2 + (k * 2 : Nat)))
      have hbs : Below B w ((wr.setCell ⟨g, k * 2, none⟩ (.int .i64 (1 + (k * 2 : Nat)))).setCell ⟨g, k * 2 + 1, none⟩ (.int .i64 (2 + (k * 2 : Nat)))) := (hbw.setCell (by exact hBg) _).setCell (by exact hBg) _
      have e2 : (1 + (k * 2 : Nat) + 1 : Int) = 2 + (k * 2 : Nat) := by omega
      clear ho hown hon
      go_wp2
      go_roundw
      case rel => exact ⟨k + 1, by omega, by go_num, by go_num, by first | exact hset | (rw [← e2] at hset; exact hset), by first | exact hos | (rw [← e2] at hos; exact hos), by first | exact hbs | (rw [← e2] at hbs; exact hbs)⟩
      case measure => simp [intOf]; omega
    · have hkn : k = n := by omega
      subst hkn
      go_wp2
      go_ret
      exact ⟨rfl, by rw [← HN.out, ← marksQ_all, HN.out]; exact hown, hon, hbw⟩
set_option maxHeartbeats 800000 in
theorem heldSlotS_any (ao : Option Addr) (n cap : Nat) (w : World) (hr : RdS w ao (marksT n)) (hm : n ≤ 1048576) :
    Calls Try.prog 11 #[.slice ao n cap, .int .i64 1] w fun e w' => e = .returned (.int .i64 (1 + (n * 2 : Nat))) ∧ w = w' := by
  go_enter Try.func11, Try.ntmps11
  go_wp2
  go_loop [1, 5] (fun m i => ∃ k : Nat, k ≤ n ∧ i = .int .i64 k ∧ m = .int .i64 (1 + (k * 2 : Nat))) (fun _ i => n - (intOf i).toNat)
  case atStart => exact ⟨0, by omega, rfl, rfl⟩
  case round =>
    obtain ⟨k, hle, rfl, rfl⟩ := hrel
    by_cases hlt : k < n
    · have hlen := marksT_length n
      rcases hr with h | ⟨b1, o1, rfl, hb1, hc1⟩
      · rw [h] at hlen; simp at hlen; omega
      obtain ⟨hx, hy⟩ := hc1 k (by omega)
      rw [marksT_getD n k hlt] at hx hy
      have e2 : ((2 : Int) + (k * 2 : Nat)) = 1 + (k * 2 : Nat) + 1 := by omega
      simp only at hx hy
      rw [e2] at hy
      clear hc1 hlen
      go_wp2
      go_round
      case rel => exact ⟨k + 1, by omega, by go_num, by go_num⟩
      case measure => simp [intOf]; omega
    · have hkn : k = n := by omega
      subst hkn
      go_wp2
      go_ret
      exact ⟨rfl, rfl⟩
end Go.Proofs.Ytjcbffkdemadnaa
