/- The reference's frame without one Slot. -/
import Derived.Test.YtjcbffkdemadnaaAppSl
import Derived.Test.YtjcbffkdemadnaaRdTD
import Derived.Lib.Hide
import Derived.Deep.RegionLaw
namespace Go.Proofs.Ytjcbffkdemadnaa
open Go.RowKit

set_option maxHeartbeats 1600000 in
theorem l8Without_any (b o n cap i : Nat) (l : List (Int × Int)) (w : World) (hr : RdS w (some ⟨b, o, none⟩) l) (hn : l.length = n) (hi : i < n) (hnc : n ≤ cap) (hm : n ≤ 1000000) (hcm : cap ≤ 9223372036854775807) :
    Calls Try.prog 45 #[.slice (some ⟨b, o, none⟩) n cap, .int .i64 i] w fun e w' => ∃ g off c, e = .returned (.slice (some ⟨g, off, none⟩) (n - 1) c) ∧ ownsS w' w.heap.size (.slice (some ⟨g, off, none⟩) (n - 1) c) (l.eraseIdx i) ∧ Below w.heap.size w w' := by
  obtain ⟨j, hj⟩ : ∃ j, i + 1 = j := ⟨_, rfl⟩
  obtain ⟨A, hA, hsrc⟩ : ∃ A : Addr, (if cap = j then some (⟨b, o, none⟩ : Addr) else some ⟨b, o + j * 2, none⟩) = some A ∧ Hid (RdS w (some A) (l.drop j)) := by
    by_cases h : cap = j
    · exact ⟨_, by rw [if_pos h], .inl (List.drop_eq_nil_of_le (by omega))⟩
    · exact ⟨_, by rw [if_neg h], RdS_drop hr _ (by omega)⟩
  have ht := Lib.hid (RdS_take hr i (by omega))
  have hic : i ≤ cap := by omega
  have hjc : j ≤ n := by omega
  have hjc2 : j ≤ cap := by omega
  have HN := Lib.hid hn
  have HJ := Lib.hid hj
  have hwr : IntKind.i64.wrap ((i : Int) + 1) = (j : Int) := by rw [IntKind.wrap_i64]; omega
  clear hr hn hj
  go_enter Try.func45, Try.ntmps45
  have t1 : True := trivial
  have hb0 : ∀ T, Below w.heap.size w (w.alloc (.cells #[] T)).drew := fun T => (Go.Joins.below_alloc1 _ _).drew
  go_wp2_with fail
  go_region_law (first
    | (clear t1; refine stepAppendSl (by rfl) _ _ (by rfl) w.heap.size (.slice (some ⟨w.heap.size, 0, none⟩) 0 0) [] (by rfl) (ownsS_zero _ _ _) ⟨b, o, none⟩ i cap (l.take i) (by rfl) (by simp; have := HN.out; omega) (RdS_below ht.out (hb0 _)) (.inl ⟨_, _, _, _, rfl⟩) (by intro k hk; simp [Value.ownBlock] at hk; subst hk; simp) (by simp; omega) (by simp) ?_; intro g1 o1 c1 w1 ho1 hb1 _ hg1 _; simp only [List.length_nil, Nat.zero_add, List.nil_append] at ho1)
    | (refine stepAppendSl (by rfl) _ _ (by rfl) w.heap.size _ (l.take i) (by rfl) ho1 A (n - j) _ (l.drop j) (by rfl) (by simp; have := HN.out; omega) (RdS_below hsrc.out ((hb0 _).trans hb1)) (.inl ⟨_, _, _, _, rfl⟩) (by intro k hk; simp [Value.ownBlock] at hk; subst hk; exact hg1) (by rw [List.length_take]; have := HJ.out; omega) ((hb0 _).trans hb1).size ?_; intro g2 o2 c2 w2 ho2 hb2 _ _ _))
  have hj := HJ.out
  have hn := HN.out
  have e1 : (l.take i).length + (n - j) = n - 1 := by rw [List.length_take]; omega
  have e2 : l.take i ++ l.drop j = l.eraseIdx i := by rw [List.eraseIdx_eq_take_drop_succ, hj]
  have hbf := ((hb0 _).trans hb1).trans hb2
  go_wp2
  go_ret
  refine ⟨g2, o2, c2, ?_, ?_, hbf⟩
  · have e3 : min i l.length + (n - j) = n - 1 := by omega
    rw [← e3]; rfl
  · rw [e1, e2] at ho2; exact ho2
end Go.Proofs.Ytjcbffkdemadnaa
