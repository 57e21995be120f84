/- Contracts of the functions that compare two rows of numbers. -/
import Derived.Test.YtjcbffkdemadnaaRd
import Derived.Lib.Hide
import Derived.Deep.QuietTactic
import Derived.BigQuiet
namespace Go.Proofs.Ytjcbffkdemadnaa
open Go.RowKit

theorem list_eq_of {A B : List Int} (hl : A.length = B.length) (h : ∀ j, j < A.length → A.getD j 0 = B.getD j 0) : A = B := by
  apply List.ext_getElem hl
  intro i h1 h2
  have := h i h1
  rw [List.getD_eq_getElem?_getD, List.getD_eq_getElem?_getD, List.getElem?_eq_getElem h1, List.getElem?_eq_getElem h2] at this
  simpa using this
set_option maxHeartbeats 800000 in
set_option maxRecDepth 100000 in
theorem l1Same_any (ao bo : Option Addr) (n m ca cb : Nat) (A B : List Int) (w : World) (ha : RdI w ao A) (hb : RdI w bo B) (hn : A.length = n) (hm : B.length = m) (h6 : n ≤ 1000) (h7 : m ≤ 1000) :
    Calls Try.prog 67 #[.slice ao n ca, .slice bo m cb] w fun e w' => e = .returned (.bool (decide (A = B))) ∧ Below w.heap.size w w' := by
  have HN := Lib.hid hn
  have HM := Lib.hid hm
  obtain ⟨R, hR⟩ : ∃ R, decide (A = B) = R := ⟨_, rfl⟩
  rw [hR]
  have HR := Lib.hid hR
  clear hn hm hR
  by_cases hnm : n = m
  rotate_left
  · have hR : R = false := by rw [← HR.out]; simp; intro h; apply hnm; rw [← HN.out, ← HM.out, h]
    subst hR
    have hni : ((n : Int) != (m : Int)) = true := by simp; omega
    have hA1 := @cellAlloc; have hA2 := @frozenAlloc; have hA3 := @setCellAlloc; go_enter Try.func67, Try.ntmps67
    go_wp2
    go_ret
    exact ⟨rfl, Below.refl _ _⟩
  subst hnm
  have hA1 := @cellAlloc; have hA2 := @frozenAlloc; have hA3 := @setCellAlloc; go_enter Try.func67, Try.ntmps67
  go_wp2
  go_loopw [5] (fun i wr => ∃ k : Nat, k ≤ n ∧ i = .int .i64 k ∧ (∀ j, j < k → A.getD j 0 = B.getD j 0) ∧ Below w.heap.size w wr) (fun i _ => n - (intOf i).toNat)
  case atStart => exact ⟨0, by omega, rfl, fun j hj => by omega, Below.refl _ _⟩
  case round =>
    obtain ⟨k, hk, rfl, hsame, hbw⟩ := hrel
    have HS := Lib.hid hsame
    clear hsame
    by_cases hlt : k < n
    · rcases RdI_below ha hbw with h | ⟨b1, o1, rfl, hb1, hc1⟩
      · have := HN.out; rw [h] at this; simp at this; omega
      rcases RdI_below hb hbw with h | ⟨b2, o2, rfl, hb2, hc2⟩
      · have := HM.out; rw [h] at this; simp at this; omega
      have hx := hc1 k (by rw [HN.out]; omega)
      have hy := hc2 k (by rw [HM.out]; omega)
      have hki : (k : Int) < (n : Int) := by omega
      by_cases hxy : A.getD k 0 = B.getD k 0
      · have HS2 : Hid (∀ j, j < k + 1 → A.getD j 0 = B.getD j 0) := Lib.hid fun j hj => by
          by_cases h : j < k
          · exact HS.out j h
          · have : j = k := by omega
            subst this; exact hxy
        rw [← hxy] at hy
        generalize A.getD k 0 = x at hx hy
        clear hc1 hc2 hxy
        go_wp2_with fail
        go_quiet (fail)
        go_wp2
        go_roundw
        case rel => exact ⟨k + 1, by omega, by go_num, HS2.out, belowThen hbw (Go.Joins.below_draws _ _ _)⟩
        case measure => simp [intOf]; omega
      · have hR : R = false := by rw [← HR.out]; simp; intro h; apply hxy; rw [h]
        subst hR
        generalize A.getD k 0 = x at hx hxy
        generalize B.getD k 0 = y at hy hxy
        have hne : (x != y) = true := by simpa using hxy
        clear hc1 hc2 hxy
        go_wp2_with fail
        go_quiet (fail)
        go_wp2
        go_ret
        exact ⟨rfl, belowThen hbw (Go.Joins.below_draws _ _ _)⟩
    · have hkn : k = n := by omega
      subst hkn
      have hR : R = true := by rw [← HR.out]; simp; exact list_eq_of (by rw [HN.out, HM.out]) (fun j hj => HS.out j (by rw [HN.out] at hj; exact hj))
      subst hR
      go_wp2
      go_ret
      exact ⟨rfl, hbw⟩
set_option maxHeartbeats 800000 in
set_option maxRecDepth 100000 in
theorem Equal_any (ao bo : Option Addr) (n m ca cb : Nat) (A B : List Int) (w : World) (ha : RdI w ao A) (hb : RdI w bo B) (hn : A.length = n) (hm : B.length = m) (h6 : n ≤ 1000) (h7 : m ≤ 1000) :
    Calls Try.prog 66 #[.slice ao n ca, .slice bo m cb] w fun e w' => e = .returned (.bool (decide (A = B))) ∧ Below w.heap.size w w' := by
  have HN := Lib.hid hn
  have HM := Lib.hid hm
  obtain ⟨R, hR⟩ : ∃ R, decide (A = B) = R := ⟨_, rfl⟩
  rw [hR]
  have HR := Lib.hid hR
  clear hn hm hR
  by_cases hnm : n = m
  rotate_left
  · have hR : R = false := by rw [← HR.out]; simp; intro h; apply hnm; rw [← HN.out, ← HM.out, h]
    subst hR
    have hni : ((n : Int) != (m : Int)) = true := by simp; omega
    have hA1 := @cellAlloc; have hA2 := @frozenAlloc; have hA3 := @setCellAlloc; go_enter Try.func66, Try.ntmps66
    go_wp2
    go_ret
    exact ⟨rfl, Below.refl _ _⟩
  subst hnm
  have hA1 := @cellAlloc; have hA2 := @frozenAlloc; have hA3 := @setCellAlloc; go_enter Try.func66, Try.ntmps66
  go_wp2
  go_loopw [13] (fun i wr => ∃ k : Nat, k ≤ n ∧ i = .int .i64 k ∧ (∀ j, j < k → A.getD j 0 = B.getD j 0) ∧ Below w.heap.size w wr) (fun i _ => n - (intOf i).toNat)
  case atStart => exact ⟨0, by omega, rfl, fun j hj => by omega, Below.refl _ _⟩
  case round =>
    obtain ⟨k, hk, rfl, hsame, hbw⟩ := hrel
    have HS := Lib.hid hsame
    clear hsame
    by_cases hlt : k < n
    · rcases RdI_below ha hbw with h | ⟨b1, o1, rfl, hb1, hc1⟩
      · have := HN.out; rw [h] at this; simp at this; omega
      rcases RdI_below hb hbw with h | ⟨b2, o2, rfl, hb2, hc2⟩
      · have := HM.out; rw [h] at this; simp at this; omega
      have hx := hc1 k (by rw [HN.out]; omega)
      have hy := hc2 k (by rw [HM.out]; omega)
      have hki : (k : Int) < (n : Int) := by omega
      by_cases hxy : A.getD k 0 = B.getD k 0
      · have HS2 : Hid (∀ j, j < k + 1 → A.getD j 0 = B.getD j 0) := Lib.hid fun j hj => by
          by_cases h : j < k
          · exact HS.out j h
          · have : j = k := by omega
            subst this; exact hxy
        rw [← hxy] at hy
        generalize A.getD k 0 = x at hx hy
        clear hc1 hc2 hxy
        go_wp2_with fail
        go_quiet (fail)
        go_wp2
        go_roundw
        case rel => exact ⟨k + 1, by omega, by go_num, HS2.out, belowThen hbw (Go.Joins.below_draws _ _ _)⟩
        case measure => simp [intOf]; omega
      · have hR : R = false := by rw [← HR.out]; simp; intro h; apply hxy; rw [h]
        subst hR
        generalize A.getD k 0 = x at hx hxy
        generalize B.getD k 0 = y at hy hxy
        have hne : (x != y) = true := by simpa using hxy
        clear hc1 hc2 hxy
        go_wp2_with fail
        go_quiet (fail)
        go_wp2
        go_ret
        exact ⟨rfl, belowThen hbw (Go.Joins.below_draws _ _ _)⟩
    · have hkn : k = n := by omega
      subst hkn
      have hR : R = true := by rw [← HR.out]; simp; exact list_eq_of (by rw [HN.out, HM.out]) (fun j hj => HS.out j (by rw [HN.out] at hj; exact hj))
      subst hR
      go_wp2
      go_ret
      exact ⟨rfl, hbw⟩
end Go.Proofs.Ytjcbffkdemadnaa
