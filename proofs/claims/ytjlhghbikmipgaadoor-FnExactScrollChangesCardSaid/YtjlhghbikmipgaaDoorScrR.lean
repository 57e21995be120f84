/- Contracts of ScrollRows of the program and of the reference. -/
import Derived.Test.YtjlhghbikmipgaaDoorScrI
import Derived.Test.YtjlhghbikmipgaaDoorTrimS
namespace Go.Proofs.YtjlhghbikmipgaaDoor
open Go.RowKit

def scrB (s : ByteArray) (k : Int) : Bool := wordB s 12 && inB 1 6 k
def scrN (s : ByteArray) (k : Int) : Nat := if scrB s k = true then scrM s.size k.toNat else 0
def RetScrB (m K : Nat) (R : Nat → List Int) (q : Bool) (w : World) (e : Ending) (w' : World) : Prop := ∃ ao cap gs, e = .returned (.tuple #[.slice ao m cap, .bool q]) ∧ scr w' w.heap.size (.slice ao m cap) m K gs R ∧ Below w.heap.size w w'
theorem scrN_le (s : ByteArray) (k : Int) : scrN s k ≤ 17 := by
  unfold scrN
  split
  · rename_i h
    simp only [scrB, wordB, Bool.and_eq_true, decide_eq_true_eq, inB_iff] at h
    unfold scrM
    split <;> omega
  · omega
set_option maxHeartbeats 1000000 in
theorem ScrollRowsS_any (s : ByteArray) (k : Int) (hs : s.size ≤ maxLen) (w : World) : Calls Tryd.prog 23 #[.string s, .int .i64 k] w (RetScrB (scrN s k) k.toNat (scrR (rowW s) k.toNat) (scrB s k) w) := by
  have HW := Lib.hid (fun W => l10Word_any s 12 (by omega) hs W)
  have hsc : wordB s 12 = true → inB 1 6 k = true → (1 ≤ k.toNat ∧ k.toNat ≤ 6 ∧ s.size ≤ 12 ∧ allIn s = true ∧ (k.toNat : Int) = k) := fun h1 h2 => by
    simp only [wordB, Bool.and_eq_true, decide_eq_true_eq] at h1
    rw [inB_iff] at h2
    exact ⟨by omega, by omega, h1.1, h1.2, by omega⟩
  have HScr : Hid (∀ W, wordB s 12 = true → inB 1 6 k = true → Calls Tryd.prog 43 #[.string s, .int .i64 k] W (RetScr (scrM s.size k.toNat) k.toNat (scrR (rowW s) k.toNat) W)) := Lib.hid fun W h1 h2 => by
    obtain ⟨a1, a2, a3, a4, a5⟩ := hsc h1 h2
    have := l10Scroll_any s k.toNat a1 a2 a3 a4 W
    rw [a5] at this
    exact this
  unfold scrN scrB
  clear hsc hs
  generalize hq1 : wordB s 12 = q1 at *
  generalize hq2 : inB 1 6 k = q2 at *
  clear hq1
  have H2 := Lib.hid hq2
  clear hq2
  rcases q1 with _ | _
  · have hA1 := @cellAlloc; have hA2 := @frozenAlloc; have hA3 := @setCellAlloc; go_enter Tryd.func23, Tryd.ntmps23
    go_wp2_with (first | (go_at_call 30; refine (HW.out _).mono ?_; rintro e w' ⟨rfl, rfl⟩))
    go_ret2
    exact ⟨_, _, fun _ => 0, rfl, scr_zero _ _ _ _ _ _, by (repeat (first | assumption | exact Below.refl _ _ | refine belowThen ?_ (Go.Joins.below_alloc1 _ _) | apply Below.drew | refine belowThen ?_ (by assumption) | refine belowThen ?_ (Go.Joins.below_draws _ _ _) | refine Below.setCell ?_ (by first | exact Nat.le_refl _ | (simp; done) | (simp; omega)) _))⟩
  rcases q2 with _ | _
  · have hA1 := @cellAlloc; have hA2 := @frozenAlloc; have hA3 := @setCellAlloc; go_enter Tryd.func23, Tryd.ntmps23
    go_wp2_with (first | (go_at_call 30; refine (HW.out _).mono ?_; rintro e w' ⟨rfl, rfl⟩) | (go_at_call 42; refine (l1In_any _ _ _ _).mono ?_; rw [H2.out]; rintro e w' ⟨rfl, rfl⟩))
    go_ret2
    exact ⟨_, _, fun _ => 0, rfl, scr_zero _ _ _ _ _ _, by (repeat (first | assumption | exact Below.refl _ _ | refine belowThen ?_ (Go.Joins.below_alloc1 _ _) | apply Below.drew | refine belowThen ?_ (by assumption) | refine belowThen ?_ (Go.Joins.below_draws _ _ _) | refine Below.setCell ?_ (by first | exact Nat.le_refl _ | (simp; done) | (simp; omega)) _))⟩
  · have HScr2 := Lib.hid (fun W => HScr.out W rfl rfl)
    rw [if_pos (show (true && true) = true from rfl)]
    generalize scrM s.size k.toNat = M at HScr2 ⊢
    generalize scrR (rowW s) k.toNat = R at HScr2 ⊢
    clear HScr
    have hA1 := @cellAlloc; have hA2 := @frozenAlloc; have hA3 := @setCellAlloc; go_enter Tryd.func23, Tryd.ntmps23
    go_wp2_with (first | (go_at_call 30; refine (HW.out _).mono ?_; rintro e w' ⟨rfl, rfl⟩) | (go_at_call 42; refine (l1In_any _ _ _ _).mono ?_; rw [H2.out]; rintro e w' ⟨rfl, rfl⟩) | (go_at_call 43; refine (HScr2.out _).mono ?_; rintro e w1 ⟨ao, cap, gs, rfl, hsc, hb1⟩))
    go_ret2
    exact ⟨_, _, gs, rfl, hsc, hb1⟩
theorem isScroll_any (s : ByteArray) (k : Int) (hs : s.size ≤ maxLen) (w : World) : Calls Tryd.prog 44 #[.string s, .int .i64 k] w fun e w' => e = .returned (.bool (scrB s k)) ∧ Below w.heap.size w w' := by
  have HW := Lib.hid (fun W => IsWordI_any s W hs)
  unfold scrB
  clear hs
  generalize hq1 : wordB s 12 = q1 at *
  generalize hq2 : inB 1 6 k = q2 at *
  clear hq1
  have H2 := Lib.hid hq2
  clear hq2
  rcases q1 with _ | _
  · have hA1 := @cellAlloc; have hA2 := @frozenAlloc; have hA3 := @setCellAlloc; go_enter Tryd.func44, Tryd.ntmps44
    go_wp2_with (first | (go_at_call 11; refine (HW.out _).mono ?_; rintro e w1 ⟨rfl, hb1⟩))
    go_ret
    exact ⟨rfl, hb1⟩
  · have hA1 := @cellAlloc; have hA2 := @frozenAlloc; have hA3 := @setCellAlloc; go_enter Tryd.func44, Tryd.ntmps44
    go_wp2_with (first | (go_at_call 11; refine (HW.out _).mono ?_; rintro e w1 ⟨rfl, hb1⟩) | (go_at_call 58; refine (within_any _ _ _ _).mono ?_; rw [H2.out]; rintro e w' ⟨rfl, rfl⟩))
    go_ret
    exact ⟨rfl, hb1⟩
set_option maxHeartbeats 1000000 in
theorem ScrollRowsI_any (s : ByteArray) (k : Int) (hs : s.size ≤ maxLen) (w : World) : Calls Tryd.prog 24 #[.string s, .int .i64 k] w (RetScrB (scrN s k) k.toNat (scrR (rowW s) k.toNat) (scrB s k) w) := by
  have HW := Lib.hid (fun W => isScroll_any s k hs W)
  have hsc : scrB s k = true → (1 ≤ k.toNat ∧ k.toNat ≤ 6 ∧ s.size ≤ 12 ∧ allIn s = true ∧ (k.toNat : Int) = k) := fun h1 => by
    simp only [scrB, wordB, Bool.and_eq_true, decide_eq_true_eq, inB_iff] at h1
    exact ⟨by omega, by omega, h1.1.1, h1.1.2, by omega⟩
  have HScr : Hid (∀ W, scrB s k = true → Calls Tryd.prog 45 #[.string s, .int .i64 k] W (RetScr (scrM s.size k.toNat) k.toNat (scrR (rowW s) k.toNat) W)) := Lib.hid fun W h1 => by
    obtain ⟨a1, a2, a3, a4, a5⟩ := hsc h1
    have := scroll_any s k.toNat a1 a2 a3 a4 W
    rw [a5] at this
    exact this
  unfold scrN
  clear hsc hs
  generalize hq1 : scrB s k = q1 at *
  clear hq1
  rcases q1 with _ | _
  · have hA1 := @cellAlloc; have hA2 := @frozenAlloc; have hA3 := @setCellAlloc; go_enter Tryd.func24, Tryd.ntmps24
    go_wp2_with (first | (go_at_call 44; refine (HW.out _).mono ?_; rintro e w1 ⟨rfl, hb1⟩))
    go_ret2
    exact ⟨_, _, fun _ => 0, rfl, scr_nil _ _ _ _ _, hb1⟩
  · have HScr2 := Lib.hid (fun W => HScr.out W rfl)
    rw [if_pos rfl]
    generalize scrM s.size k.toNat = M at HScr2 ⊢
    generalize scrR (rowW s) k.toNat = R at HScr2 ⊢
    clear HScr
    have hA1 := @cellAlloc; have hA2 := @frozenAlloc; have hA3 := @setCellAlloc; go_enter Tryd.func24, Tryd.ntmps24
    go_wp2_with (first | (go_at_call 44; refine (HW.out _).mono ?_; rintro e w1 ⟨rfl, hb1⟩) | (go_at_call 45; refine (HScr2.out _).mono ?_; rintro e w2 ⟨ao, cap, gs, rfl, hsc, hb2⟩))
    go_ret2
    exact ⟨_, _, gs, rfl, scr_below hsc (Below.refl _ _) hb1.size, belowThen hb1 hb2⟩
end Go.Proofs.YtjlhghbikmipgaaDoor
