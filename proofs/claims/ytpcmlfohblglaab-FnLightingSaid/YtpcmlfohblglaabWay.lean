/- Contracts of the functions that tell whether a cell is on the way to a goal. -/
import Derived.Test.YtpcmlfohblglaabFindF
import Derived.Test.YtpcmlfohblglaabDigit
import Derived.Test.YtpcmlfohblglaabOrder
import Derived.Lib.Hide
import Derived.Deep.RegionHeld3
namespace Go.Proofs.Ytpcmlfohblglaab
open Go.RowKit

/-- All bars of a cell light in the cell of a digit. -/
def onP (c x : Int) : Bool := (bits .andNot .i64 c (digC x.toNat) == 0)
/-- A cell is on the way to a goal. -/
def wayB (c : Int) (L : List Int) : Bool := L.any (onP c)
/-- All numbers of a list are digits. -/
def allDig (L : List Int) : Prop := ∀ x ∈ L, inB 0 9 x = true
theorem orderB_dig {L : List Int} (h : orderB L = true) : allDig L := by
  intro x hx
  obtain ⟨i, hi, rfl⟩ := List.getElem_of_mem hx
  have := okP_le h (show i + 1 ≤ L.length by omega)
  rw [okP_succ, Bool.and_eq_true] at this
  have h2 := this.2
  simp only [okAt, Bool.and_eq_true] at h2
  have e : L.getD i 0 = L[i] := by simp [hi]
  rw [e] at h2
  exact h2.1
theorem and_full : ∀ a : Fin 128, ∀ b : Fin 128, ((a.val &&& b.val) == a.val) = ((a.val &&& (18446744073709551615 - b.val)) == 0) := by decide +kernel
theorem on_eq {c : Int} (hc : inB 0 127 c = true) (d : Nat) : (bits .and .i64 c (digC d) == c) = (bits .andNot .i64 c (digC d) == 0) := by
  rw [inB_iff] at hc
  obtain ⟨C, rfl⟩ := Int.eq_ofNat_of_zero_le hc.1
  have hd := digC_lt d
  have := and_full ⟨C, by omega⟩ ⟨digC d, hd⟩
  simp only at this
  rw [and64 _ _ (by omega) (by omega), andNot64 _ _ (by omega) (by omega)]
  rw [Bool.eq_iff_iff] at this ⊢
  simp only [beq_iff_eq] at this ⊢
  omega
theorem mem_getD {L : List Int} {k : Nat} (h : k < L.length) : L.getD k 0 ∈ L := by
  have : L.getD k 0 = L[k] := by simp [h]
  rw [this]; exact List.getElem_mem _

set_option maxHeartbeats 400000 in
theorem l11Way_any (c : Int) (hc : inB 0 127 c = true) (ao : Option Addr) (n cap : Nat) (L : List Int) (w : World) (hr : RdI w ao L) (hn : L.length = n) (hm : n ≤ maxLen) (hD : allDig L) :
    Calls Try.prog 47 #[.int .i64 c, .slice ao n cap] w fun e w' => e = .returned (.bool (wayB c L)) ∧ Below w.heap.size w w' := by
  unfold maxLen at hm
  obtain ⟨R, hR⟩ : ∃ R, wayB c L = R := ⟨_, rfl⟩
  rw [hR]
  have hA1 := @cellAlloc; have hA2 := @frozenAlloc; have hA3 := @setCellAlloc; go_enter Try.func47, Try.ntmps47
  go_wp2
  go_loopw [5] (fun i wr => ∃ k : Nat, k ≤ n ∧ i = .int .i64 k ∧ (L.drop k).any (onP c) = R ∧ Below w.heap.size w wr) (fun i _ => n - (intOf i).toNat)
  case atStart => exact ⟨0, by omega, rfl, by simpa [wayB] using hR, Below.refl _ _⟩
  case round =>
    obtain ⟨k, hle, rfl, hd, hbw⟩ := hrel
    by_cases hlt : k < n
    · have hrr := RdI_below hr hbw
      rcases hrr with h | ⟨b1, o1, rfl, hb1, hc1⟩
      · rw [h] at hn; simp at hn; omega
      have hx := hc1 k (by omega)
      have hy := hD _ (mem_getD (show k < L.length by omega))
      rw [drop_cons L k (by omega), List.any_cons] at hd
      generalize L.getD k 0 = y at hx hd hy
      rw [inB_iff] at hy
      obtain ⟨d, rfl⟩ := Int.eq_ofNat_of_zero_le hy.1
      have hd10 : d < 10 := by omega
      have he := on_eq hc d
      simp only [onP, Int.toNat_natCast] at hd
      rw [← he] at hd
      generalize ht : (bits .and .i64 c (digC d) == c) = t at hd
      clear hc1 hR hn hr he hy hD
      rcases t with _ | _
      · rw [Bool.false_or] at hd
        have HD := Lib.hid hd
        clear hd
        go_wp2_with (go_at_call 52; refine (l2Digit_any d hd10 _).mono ?_; rintro e w1 ⟨rfl, hb2⟩)
        go_roundw
        case rel => exact ⟨k + 1, by omega, by go_num, HD.out, belowThen hbw hb2⟩
        case measure => simp [intOf]; omega
      · rw [Bool.true_or] at hd
        subst hd
        go_wp2_with (go_at_call 52; refine (l2Digit_any d hd10 _).mono ?_; rintro e w1 ⟨rfl, hb2⟩)
        go_ret
        exact ⟨rfl, belowThen hbw hb2⟩
    · have hkn : k = n := by omega
      subst hkn
      rw [List.drop_eq_nil_of_le (by omega)] at hd
      simp only [List.any_nil] at hd
      subst hd
      clear hR hn
      go_wp2
      go_ret
      exact ⟨rfl, hbw⟩

theorem enters_way : Enters 62 := fun _ _ => by simp [go_sem, Try.func62]
theorem wayFn_any (c : Int) (d : Nat) (hd : d < 10) (b : Nat) (w : World) (hb : b < w.heap.size) (hcell : w.cell? ⟨b, 0, none⟩ = some (.int .i64 c)) :
    Calls Try.prog 62 #[.int .i64 d, .pointer (some ⟨b, 0, none⟩)] w fun e w' => e = .returned (.bool (onP c d)) ∧ Below w.heap.size w w' := by
  have hdg := digAgg d hd
  have hA1 := @cellAlloc; have hA2 := @frozenAlloc; have hA3 := @setCellAlloc; go_enter Try.func62, Try.ntmps62
  go_wp2_with fail
  go_region_held3 (fun w' => w'.cell? ⟨b, 0, none⟩ = some (.int .i64 c) ∧ Below w.heap.size w w') (first | assumption | exact ⟨hcell, (Below.refl _ _).drew⟩ | exact boxKeep1 hb ‹_› ‹_›) (first | (go_at_call 63; refine (digitCells_any _).mono ?_; rintro e w1 ⟨rfl, hb1⟩))
  rename_i hH
  go_wp2
  go_ret
  exact ⟨ret_bool (by simp [onP]), hH.2⟩
theorem isOnWay_any (c : Int) (ao : Option Addr) (n cap : Nat) (L : List Int) (w : World) (hr : RdI w ao L) (hn : L.length = n) (hm : n ≤ maxLen) (hD : allDig L) :
    Calls Try.prog 44 #[.int .i64 c, .slice ao n cap] w fun e w' => e = .returned (.bool (wayB c L)) ∧ Below w.heap.size w w' := by
  have hmf : ∀ (fn : Fn) (first cap : Array Value) (w : World), (Instr.makeFunc fn first cap).run Try.prog w = .ok (.func fn first cap) w := fun _ _ _ _ => rfl
  have hT : Tells 62 (.pointer (some ⟨w.heap.size, 0, none⟩)) (onP c) L (w.alloc (.cells #[.int .i64 c] 3)) := by
    intro x W hx hbW
    have hy := hD x hx
    rw [inB_iff] at hy
    obtain ⟨d, rfl⟩ := Int.eq_ofNat_of_zero_le hy.1
    refine wayFn_any c d (by omega) w.heap.size W (by have := hbW.size; simp at this; omega) ?_
    rw [hbW.cell (p := ⟨w.heap.size, 0, none⟩) (by simp)]
    exact World.cell?_alloc_at _ _ _ _ rfl
  have HT := Lib.hid hT
  clear hT
  have hA1 := @cellAlloc; have hA2 := @frozenAlloc; have hA3 := @setCellAlloc; go_enter Try.func44, Try.ntmps44
  go_wp2_with (go_at_call 61; refine (ContainsFunc_any _ _ _ _ _ _ L _ (RdI_below hr (Go.Joins.below_alloc1 _ _)) hn hm HT.out enters_way).mono ?_; rintro e w1 ⟨rfl, hb1⟩)
  go_ret
  exact ⟨rfl, belowThen (Go.Joins.below_alloc1 _ _) hb1⟩
/-- The goal and the cell are valid. -/
def onOk (c : Int) (L : List Int) (n : Nat) : Bool := (orderB L && decide (0 < n)) && inB 0 127 c
theorem onOk_dig {c : Int} {L : List Int} {n : Nat} (h : onOk c L n = true) : allDig L := orderB_dig (by unfold onOk at h; simp only [Bool.and_eq_true] at h; exact h.1.1)
end Go.Proofs.Ytpcmlfohblglaab
