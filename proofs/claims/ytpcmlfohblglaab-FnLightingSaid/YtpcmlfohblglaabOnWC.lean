/- Contracts of IsOnWay of the program and of the reference. -/
import Derived.Test.YtpcmlfohblglaabWay
import Derived.Test.YtpcmlfohblglaabToS
import Derived.Test.YtpcmlfohblglaabEqS
namespace Go.Proofs.Ytpcmlfohblglaab
open Go.RowKit

theorem IsOnWayS_any (c : Int) (ao : Option Addr) (n cap : Nat) (L : List Int) (w : World) (hr : RdI w ao L) (hn : L.length = n) (hm : n ≤ maxLen) (hcap : n ≤ cap) :
    Calls Try.prog 18 #[.int .i64 c, .slice ao n cap] w fun e w' => e = .returned (.tuple #[.bool (onOk c L n && wayB c L), .bool (onOk c L n)]) ∧ Below w.heap.size w w' := by
  generalize hg : (orderB L && decide (0 < n)) = g
  generalize hi : inB 0 127 c = i
  have ho : onOk c L n = (g && i) := by unfold onOk; rw [hg, hi]
  rw [ho]
  have HG := Lib.hid hg
  have HI := Lib.hid hi
  clear hg hi ho
  rcases g with _ | _
  · go_enter Try.func18, Try.ntmps18
    go_wp2_with (first | (go_at_call 45; refine (l11Goal_any _ _ _ L _ hr hn hm hcap).mono ?_; rw [HG.out]; rintro e w1 ⟨rfl, hb1⟩))
    go_ret2
    exact ⟨rfl, hb1⟩
  · rcases i with _ | _
    · go_enter Try.func18, Try.ntmps18
      go_wp2_with (first | (go_at_call 45; refine (l11Goal_any _ _ _ L _ hr hn hm hcap).mono ?_; rw [HG.out]; rintro e w1 ⟨rfl, hb1⟩) | (go_at_call 46; refine (l2Cell_any _ _).mono ?_; rw [HI.out]; rintro e w' ⟨rfl, rfl⟩))
      go_ret2
      exact ⟨rfl, hb1⟩
    · have hD : allDig L := orderB_dig (by have := HG.out; simp only [Bool.and_eq_true] at this; exact this.1)
      have HD := Lib.hid hD
      clear hD
      go_enter Try.func18, Try.ntmps18
      go_wp2_with (first | (go_at_call 45; refine (l11Goal_any _ _ _ L _ hr hn hm hcap).mono ?_; rw [HG.out]; rintro e w1 ⟨rfl, hb1⟩) | (go_at_call 46; refine (l2Cell_any _ _).mono ?_; rw [HI.out]; rintro e w' ⟨rfl, rfl⟩) | (go_at_call 47; refine (l11Way_any c HI.out _ _ _ L _ (RdI_below hr hb1) hn hm HD.out).mono ?_; rintro e w2 ⟨rfl, hb2⟩))
      go_ret2
      exact ⟨rfl, belowThen hb1 hb2⟩
theorem IsOnWayI_any (c : Int) (ao : Option Addr) (n cap : Nat) (L : List Int) (w : World) (hr : RdI w ao L) (hn : L.length = n) (hm : n ≤ maxLen) (hcap : n ≤ cap) :
    Calls Try.prog 17 #[.int .i64 c, .slice ao n cap] w fun e w' => e = .returned (.tuple #[.bool (onOk c L n && wayB c L), .bool (onOk c L n)]) ∧ Below w.heap.size w w' := by
  generalize hg : (orderB L && decide (0 < n)) = g
  generalize hi : inB 0 127 c = i
  have ho : onOk c L n = (g && i) := by unfold onOk; rw [hg, hi]
  rw [ho]
  have HG := Lib.hid hg
  have HI := Lib.hid hi
  clear hg hi ho
  rcases g with _ | _
  · go_enter Try.func17, Try.ntmps17
    go_wp2_with (first | (go_at_call 20; refine (IsGoalI_any _ _ _ L _ hr hn hm hcap).mono ?_; rw [HG.out]; rintro e w' ⟨rfl, rfl⟩))
    go_ret2
    exact ⟨rfl, Below.refl _ _⟩
  · rcases i with _ | _
    · go_enter Try.func17, Try.ntmps17
      go_wp2_with (first | (go_at_call 20; refine (IsGoalI_any _ _ _ L _ hr hn hm hcap).mono ?_; rw [HG.out]; rintro e w' ⟨rfl, rfl⟩) | (go_at_call 43; refine (IsCell_any _ _).mono ?_; rw [HI.out]; rintro e w' ⟨rfl, rfl⟩))
      go_ret2
      exact ⟨rfl, Below.refl _ _⟩
    · have hD : allDig L := orderB_dig (by have := HG.out; simp only [Bool.and_eq_true] at this; exact this.1)
      have HD := Lib.hid hD
      clear hD
      go_enter Try.func17, Try.ntmps17
      go_wp2_with (first | (go_at_call 20; refine (IsGoalI_any _ _ _ L _ hr hn hm hcap).mono ?_; rw [HG.out]; rintro e w' ⟨rfl, rfl⟩) | (go_at_call 43; refine (IsCell_any _ _).mono ?_; rw [HI.out]; rintro e w' ⟨rfl, rfl⟩) | (go_at_call 44; refine (isOnWay_any c _ _ _ L _ hr hn hm HD.out).mono ?_; rintro e w2 ⟨rfl, hb2⟩))
      go_ret2
      exact ⟨rfl, hb2⟩
end Go.Proofs.Ytpcmlfohblglaab
