/- The draws of frames, from a code. -/
import Derived.Test.YtjcbffkdemadnaaDrawS
import Derived.Test.YtjcbffkdemadnaaLeastS
import Derived.Lib.Hide
namespace Go.Proofs.Ytjcbffkdemadnaa
open Go.RowKit

theorem RetFr_le {q : Nat} {w W : World} {e : Ending} {w' : World} (h : RetFr q W e w') (hw : w.heap.size ≤ W.heap.size) : RetFr q w e w' := by
  obtain ⟨k, g, off, c, l, h1, h2, h3, h4, h5, h6⟩ := h
  exact ⟨k, g, off, c, l, h1, h2, h3, h4, ownsS_below h5 (Below.refl _ _) hw, h6⟩
theorem RetFr_more {q r : Nat} {w : World} {e : Ending} {w' : World} (h : RetFr q w e w') (hw : q ≤ r) : RetFr r w e w' := by
  obtain ⟨k, g, off, c, l, h1, h2, h3, h4, h5, h6⟩ := h
  exact ⟨k, g, off, c, l, h1, h2, h3, Nat.le_trans h4 hw, h5, h6⟩
theorem ownsS_cells {w : World} {B g off n c : Nat} {l : List (Int × Int)} (h : ownsS w B (.slice (some ⟨g, off, none⟩) n c) l) (i : Nat) (hi : i < l.length) :
    g < w.heap.size ∧ ∃ x0 x1 : Int, w.cell? ⟨g, off + i * 2, none⟩ = some (.int .i64 x0) ∧ w.cell? ⟨g, off + i * 2 + 1, none⟩ = some (.int .i64 x1) := by
  rcases RdS_owns h with h0 | ⟨b, o, he, hlt, hc⟩
  · rw [h0] at hi; simp at hi
  · cases he
    exact ⟨hlt, _, _, (hc i hi).1, (hc i hi).2⟩
theorem DrawIsFrame_any (ao : Option Addr) (n cap : Nat) (w : World) (h : RdY w ao n) : Calls Try.prog 46 #[.slice ao n cap] w fun e w' => RetFr 14 w e w' ∧ Below w.heap.size w w' := by
  have hc0 := Cur_new w ao n cap 79 h
  go_enter Try.func46, Try.ntmps46
  go_wp2_with (go_at_call 63; refine (frameO hc0 (by omega)).mono ?_; rintro e w1 ⟨⟨k, g, off, c, l, rfl, hk0, hk7, hl, ho, hg⟩, hc1⟩)
  go_ret2
  exact ⟨⟨k, g, off, c, l, rfl, hk0, hk7, by omega, ownsS_below ho (Below.refl _ _) (by simp), hg⟩, CurO.new hc1⟩
theorem DrawLeastSwitches_any (ao : Option Addr) (n cap : Nat) (w : World) (h : RdY w ao n) : Calls Try.prog 20 #[.slice ao n cap] w fun e w' => RetFr 14 w e w' ∧ Below w.heap.size w w' := by
  go_enter Try.func20, Try.ntmps20
  go_wp2_with (go_at_call 46; refine (DrawIsFrame_any ao n cap _ h).mono ?_; rintro e w1 ⟨⟨k, g, off, c, l, rfl, hk0, hk7, hl, ho, hg⟩, hb1⟩)
  go_ret2
  exact ⟨⟨k, g, off, c, l, rfl, hk0, hk7, hl, ho, hg⟩, hb1⟩
set_option maxHeartbeats 1600000 in
theorem DrawVainSlots_any (ao : Option Addr) (n cap : Nat) (w : World) (h : RdY w ao n) : Calls Try.prog 41 #[.slice ao n cap] w fun e w' => RetFr 14 w e w' ∧ Below w.heap.size w w' := by
  have hc0 := Cur_new w ao n cap 79 h
  go_enter Try.func41, Try.ntmps41
  go_wp2_with fail
  refine (frameO hc0 (by omega)).mono ?_
  rintro e w1 ⟨⟨k, g, off, c, l, rfl, hk0, hk7, hl, ho, hg⟩, hc1⟩
  have ho' := ownsS_below ho (Below.refl _ _) (show w.heap.size + 1 ≤ _ by simp)
  have hb1 := CurO.new hc1
  have hs1 : w.heap.size + 1 ≤ w1.heap.size := by
    have := hc1.1.lt
    omega
  clear ho
  rcases Nat.eq_zero_or_pos l.length with h0 | h0
  · have hl0 := List.eq_nil_of_length_eq_zero h0
    subst hl0
    have hd : decide ((0 : Int) < ((([] : List (Int × Int)).length : Nat) : Int)) = false := by decide
    go_wp2
    go_ret2
    exact ⟨⟨k, g, off, c, [], rfl, hk0, hk7, by omega, ownsS_below ho' (Below.refl _ _) (by omega), hg⟩, hb1⟩
  · have hd : decide ((0 : Int) < (l.length : Int)) = true := by simp; omega
    have hbB : w.heap.size < w.heap.size + 1 := Nat.lt_succ_self _
    have HO := Lib.hid ho'
    clear ho'
    go_wp2_with (first
      | (go_at_call 64; refine (oneO _ hc1.self (by omega)).mono ?_; rintro e w2 ⟨⟨q, rfl⟩, hc2⟩)
      | (go_at_call 65; refine (pickO _ hc2 (by omega)).mono ?_; rintro e w3 ⟨⟨i, hi, hin, rfl⟩, hc3⟩; have hil : i < l.length := (by have := hin (by omega); omega); clear hin; have hown3 : ownsS w3 (w.heap.size + 1) (.slice (some ⟨g, off, none⟩) l.length c) l := ownsG_onlyC HO.out hbB hc3.2; obtain ⟨hgl3, x0, x1, hx0, hx1⟩ := ownsS_cells hown3 i hil; have hs3 := hc3.2.size)
      | (at_builtin; refine wpAppendSl ((w3.alloc (.cells #[.int .i64 x0, .int .i64 x1] 48)).alloc (.cells #[.int .i64 x0, .int .i64 (bits .and .i64 x1 85)] 48)) (by rfl) _ _ (by rfl) (w.heap.size + 1) (.slice (some ⟨g, off, none⟩) l.length c) l (by rfl) (ownsS_below hown3 (Go.Joins.below_alloc2 _ _ _) (Nat.le_refl _)) ⟨w3.heap.size + 1, 0, none⟩ 1 1 [(x0, bits .and .i64 x1 85)] (by rfl) rfl (by have h9 := RdS_new (w3.alloc (.cells #[.int .i64 x0, .int .i64 x1] 48)) x0 (bits .and .i64 x1 85) 48; rw [heapAlloc] at h9; exact h9) (.inl ⟨_, _, _, _, rfl⟩) (by intro k hk; simp [Value.ownBlock] at hk; subst hk; simp; omega) (by omega) (by simp; omega) ?_; intro g6 o6 c6 w6 ho6 hb6 _ hg6 _))
    · go_ret2
      have hb3 : Below w.heap.size w w3 := CurO.new (hc1.trans hc3)
      exact ⟨⟨k, g6, o6, c6, l ++ [(x0, bits .and .i64 x1 85)], by rw [List.length_append]; rfl, hk0, hk7, by simp; omega, by rw [List.length_append]; exact ownsS_below ho6 (Below.refl _ _) (by omega), hg6⟩, (belowThen hb3 (Go.Joins.below_alloc2 _ _ _)).trans (hb6.mono (by omega))⟩
    · go_ret2
      have ho2 : ownsS w2 (w.heap.size + 1) (.slice (some ⟨g, off, none⟩) l.length c) l := ownsG_onlyC HO.out hbB hc2.2
      have hs2 := hc2.2.size
      exact ⟨⟨k, g, off, c, l, rfl, hk0, hk7, by omega, ownsS_below ho2 (Below.refl _ _) (by omega), by omega⟩, CurO.new (hc1.trans hc2)⟩
theorem DrawDropVain_any (ao : Option Addr) (n cap : Nat) (w : World) (h : RdY w ao n) : Calls Try.prog 13 #[.slice ao n cap] w fun e w' => RetFr 14 w e w' ∧ Below w.heap.size w w' := by
  go_enter Try.func13, Try.ntmps13
  go_wp2_with (go_at_call 41; refine (DrawVainSlots_any ao n cap _ h).mono ?_; rintro e w1 ⟨⟨k, g, off, c, l, rfl, hk0, hk7, hl, ho, hg⟩, hb1⟩)
  go_ret2
  exact ⟨⟨k, g, off, c, l, rfl, hk0, hk7, hl, ho, hg⟩, hb1⟩
end Go.Proofs.Ytjcbffkdemadnaa
