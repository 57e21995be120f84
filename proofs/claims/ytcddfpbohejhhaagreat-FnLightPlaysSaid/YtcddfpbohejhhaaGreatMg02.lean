/- Joined texts: Cell, Find, FindF. -/
import Derived.Test.YtcddfpbohejhhaaGreatMg01
import Derived.Lib.Hide
namespace Go.Proofs.YtcddfpbohejhhaaGreat
open Go.RowKit

theorem l1In_any (x a b : Int) (w : World) : Calls Tryz.prog 102 #[.int .i64 x, .int .i64 a, .int .i64 b] w
    fun e w' => e = .returned (.bool (inB a b x)) ∧ w = w' := by
  go_enter Tryz.func102, Tryz.ntmps102
  go_wp2
  all_goals go_ret
  all_goals refine ⟨ret_bool ?_, rfl⟩
  all_goals simp [inB]
  all_goals omega
theorem within_any (x a b : Int) (w : World) : Calls Tryz.prog 92 #[.int .i64 x, .int .i64 a, .int .i64 b] w
    fun e w' => e = .returned (.bool (inB a b x)) ∧ w = w' := by
  go_enter Tryz.func92, Tryz.ntmps92
  go_wp2
  all_goals go_ret
  all_goals refine ⟨ret_bool ?_, rfl⟩
  all_goals simp [inB]
  all_goals omega
theorem l2Cell_any (x : Int) (w : World) : Calls Tryz.prog 70 #[.int .i64 x] w
    fun e w' => e = .returned (.bool (inB 0 127 x)) ∧ w = w' := by
  go_enter Tryz.func70, Tryz.ntmps70
  go_wp2_with (go_at_call 102; refine (l1In_any _ _ _ _).mono ?_; rintro e w' ⟨rfl, rfl⟩)
  go_ret
  exact ⟨rfl, rfl⟩
theorem IsCell_any (x : Int) (w : World) : Calls Tryz.prog 59 #[.int .i64 x] w
    fun e w' => e = .returned (.bool (inB 0 127 x)) ∧ w = w' := by
  go_enter Tryz.func59, Tryz.ntmps59
  go_wp2_with (go_at_call 92; refine (within_any _ _ _ _).mono ?_; rintro e w' ⟨rfl, rfl⟩)
  go_ret
  exact ⟨rfl, rfl⟩
end Go.Proofs.YtcddfpbohejhhaaGreat

namespace Go.Proofs.YtcddfpbohejhhaaGreat
open Go.RowKit

/-- The place of the first x in a list whose first element has the place n, or -1. -/
def idxFrom : List Int → Int → Nat → Int
  | [], _, _ => -1
  | y :: ys, x, n => if y = x then (n : Int) else idxFrom ys x (n + 1)
theorem idxFrom_ge (L : List Int) (x : Int) (n : Nat) : (decide (0 ≤ idxFrom L x n)) = L.contains x := by
  induction L generalizing n with
  | nil => simp [idxFrom]
  | cons y ys ih =>
    unfold idxFrom
    by_cases h : y = x
    · simp [h]
    · rw [if_neg h, ih]
      have : (x == y) = false := by simp; exact fun e => h e.symm
      simp only [List.contains_cons, this, Bool.false_or]
theorem drop_cons (L : List Int) (k : Nat) (h : k < L.length) : L.drop k = L.getD k 0 :: L.drop (k + 1) := by
  rw [List.drop_eq_getElem_cons h]; simp [h]
/-- A slice's first part reads as the first numbers. -/
theorem RdI_take {w : World} {ao : Option Addr} {L : List Int} (h : RdI w ao L) (k : Nat) : RdI w ao (L.take k) := by
  rcases h with rfl | ⟨b, off, rfl, hb, hc⟩
  · exact .inl (by simp)
  · refine .inr ⟨b, off, rfl, hb, fun j hj => ?_⟩
    have hj' : j < k ∧ j < L.length := by rw [List.length_take] at hj; omega
    rw [hc j hj'.2]
    congr 2
    simp only [List.getD_eq_getElem?_getD, List.getElem?_take_of_lt hj'.1]
theorem l1Has_any (ao : Option Addr) (n cap : Nat) (L : List Int) (x : Int) (w : World) (hr : RdI w ao L) (hn : L.length = n) (hm : n ≤ maxLen) :
    Calls Tryz.prog 75 #[.slice ao n cap, .int .i64 x] w fun e w' => e = .returned (.bool (L.contains x)) ∧ w = w' := by
  unfold maxLen at hm
  obtain ⟨R, hR⟩ : ∃ R, L.contains x = R := ⟨_, rfl⟩
  rw [hR]
  go_enter Tryz.func75, Tryz.ntmps75
  go_wp2
  go_loop [5] (fun i => ∃ k : Nat, k ≤ n ∧ i = .int .i64 k ∧ (L.drop k).contains x = R) (fun i => n - (intOf i).toNat)
  case atStart => exact ⟨0, by omega, rfl, by simpa using hR⟩
  case round =>
    obtain ⟨k, hle, rfl, hd⟩ := hrel
    by_cases hlt : k < n
    · rcases hr with h | ⟨b1, o1, rfl, hb1, hc1⟩
      · rw [h] at hn; simp at hn; omega
      have hx := hc1 k (by omega)
      rw [drop_cons L k (by omega), List.contains_cons] at hd
      generalize L.getD k 0 = y at hx hd
      clear hc1 hR hn
      by_cases hy : (y == x) = true
      · have hz : (x == y) = true := by simp at hy ⊢; exact hy.symm
        rw [hz, Bool.true_or] at hd
        subst hd
        go_wp2
        go_ret
        exact ⟨rfl, rfl⟩
      · rw [Bool.not_eq_true] at hy
        have hz : (x == y) = false := by simp at hy ⊢; exact fun e => hy e.symm
        rw [hz, Bool.false_or] at hd
        have HD := Lib.hid hd
        clear hd hz
        go_wp2
        go_round
        case rel => exact ⟨k + 1, by omega, by go_num, HD.out⟩
        case measure => simp [intOf]; omega
    · have hkn : k = n := by omega
      subst hkn
      rw [List.drop_eq_nil_of_le (by omega)] at hd
      simp at hd
      subst hd
      clear hR hn
      go_wp2
      go_ret
      exact ⟨rfl, rfl⟩
theorem sliceIndex_any (ao : Option Addr) (n cap : Nat) (L : List Int) (x : Int) (w : World) (hr : RdI w ao L) (hn : L.length = n) (hm : n ≤ maxLen) :
    Calls Tryz.prog 94 #[.slice ao n cap, .int .i64 x] w fun e w' => e = .returned (.int .i64 (idxFrom L x 0)) ∧ w = w' := by
  unfold maxLen at hm
  obtain ⟨R, hR⟩ : ∃ R, idxFrom L x 0 = R := ⟨_, rfl⟩
  rw [hR]
  go_enter Tryz.func94, Tryz.ntmps94
  go_wp2
  go_loop [8] (fun i => ∃ k : Nat, k ≤ n ∧ i = .int .i64 k ∧ idxFrom (L.drop k) x k = R) (fun i => n - (intOf i).toNat)
  case atStart => exact ⟨0, by omega, rfl, by simpa using hR⟩
  case round =>
    obtain ⟨k, hle, rfl, hd⟩ := hrel
    by_cases hlt : k < n
    · rcases hr with h | ⟨b1, o1, rfl, hb1, hc1⟩
      · rw [h] at hn; simp at hn; omega
      have hx := hc1 k (by omega)
      rw [drop_cons L k (by omega)] at hd
      unfold idxFrom at hd
      generalize L.getD k 0 = y at hx hd
      clear hc1 hR hn
      by_cases hy : y = x
      · subst hy
        rw [if_pos rfl] at hd
        subst hd
        go_wp2
        go_ret
        exact ⟨rfl, rfl⟩
      · rw [if_neg hy] at hd
        have hz : (x == y) = false := by simp; exact fun e => hy e.symm
        have HD := Lib.hid hd
        clear hd hy
        go_wp2
        go_round
        case rel => exact ⟨k + 1, by omega, by go_num, HD.out⟩
        case measure => simp [intOf]; omega
    · have hkn : k = n := by omega
      subst hkn
      rw [List.drop_eq_nil_of_le (by omega)] at hd
      unfold idxFrom at hd
      subst hd
      clear hR hn
      go_wp2
      go_ret
      exact ⟨rfl, rfl⟩
theorem sliceContains_any (ao : Option Addr) (n cap : Nat) (L : List Int) (x : Int) (w : World) (hr : RdI w ao L) (hn : L.length = n) (hm : n ≤ maxLen) :
    Calls Tryz.prog 89 #[.slice ao n cap, .int .i64 x] w fun e w' => e = .returned (.bool (L.contains x)) ∧ w = w' := by
  have HG := Lib.hid (idxFrom_ge L x 0)
  go_enter Tryz.func89, Tryz.ntmps89
  go_wp2_with (go_at_call 94; refine (sliceIndex_any _ _ _ L _ _ hr hn hm).mono ?_; rintro e w' ⟨rfl, rfl⟩)
  go_ret
  exact ⟨ret_bool HG.out, rfl⟩
end Go.Proofs.YtcddfpbohejhhaaGreat

namespace Go.Proofs.YtcddfpbohejhhaaGreat
open Go.RowKit

/-- The place of the first element for which p is true, the first element having the place n; or -1. -/
def idxFromP (p : Int → Bool) : List Int → Nat → Int
  | [], _ => -1
  | y :: ys, n => if p y = true then (n : Int) else idxFromP p ys (n + 1)
theorem idxFromP_ge (p : Int → Bool) (L : List Int) (n : Nat) : (decide (0 ≤ idxFromP p L n)) = L.any p := by
  induction L generalizing n with
  | nil => simp [idxFromP]
  | cons y ys ih =>
    unfold idxFromP
    by_cases h : p y = true
    · simp [h]
    · rw [if_neg h, ih]
      rw [Bool.not_eq_true] at h
      simp [List.any_cons, h]
/-- What is asked of a function value with one captured cell: at each element it tells whether p holds there, and it makes new memory alone. -/
def Tells (K : Nat) (c0 : Value) (p : Int → Bool) (L : List Int) (w0 : World) : Prop :=
  ∀ (x : Int) (W : World), x ∈ L → Below w0.heap.size w0 W → Calls Tryz.prog K #[.int .i64 x, c0] W fun e w' => e = .returned (.bool (p x)) ∧ Below W.heap.size W w'
/-- The number K is that of a function of the program's own text. -/
def Enters (K : Nat) : Prop := ∀ (args : Array Value) (W : World), (callFunc K args).run Tryz.prog W = .ok (.enter K args) W
set_option maxRecDepth 100000 in
theorem IndexFunc_any (K : Nat) (c0 : Value) (p : Int → Bool) (ao : Option Addr) (n cap : Nat) (L : List Int) (w : World) (hr : RdI w ao L) (hn : L.length = n) (hm : n ≤ maxLen) (hf : Tells K c0 p L w) (hK : Enters K) :
    Calls Tryz.prog 105 #[.slice ao n cap, .func (.func K) #[] #[c0]] w fun e w' => e = .returned (.int .i64 (idxFromP p L 0)) ∧ Below w.heap.size w w' := by
  unfold maxLen at hm
  obtain ⟨R, hR⟩ : ∃ R, idxFromP p L 0 = R := ⟨_, rfl⟩
  rw [hR]
  have HF := Lib.hid hf
  clear hf
  unfold Enters at hK
  go_enter Tryz.func105, Tryz.ntmps105
  go_wp2
  go_loopw [8] (fun i wr => ∃ k : Nat, k ≤ n ∧ i = .int .i64 k ∧ idxFromP p (L.drop k) k = R ∧ Below w.heap.size w wr) (fun i _ => n - (intOf i).toNat)
  case atStart => exact ⟨0, by omega, rfl, by simpa using hR, Below.refl _ _⟩
  case round =>
    obtain ⟨k, hle, rfl, hd, hbw⟩ := hrel
    by_cases hlt : k < n
    · have hrr := RdI_below hr hbw
      rcases hrr with h | ⟨b1, o1, rfl, hb1, hc1⟩
      · rw [h] at hn; simp at hn; omega
      have hx := hc1 k (by omega)
      rw [drop_cons L k (by omega)] at hd
      have hmem : L.getD k 0 ∈ L := by
        have : L.getD k 0 = L[k]'(by omega) := by rw [List.getD_eq_getElem?_getD, List.getElem?_eq_getElem (by omega)]; rfl
        rw [this]; exact List.getElem_mem _
      unfold idxFromP at hd
      generalize L.getD k 0 = y at hx hd hmem
      have hcall := HF.out y wr hmem hbw
      generalize hp : p y = c at hd hcall
      clear hp
      have HC := Lib.hid hcall
      clear hc1 hR hn hr hcall
      rcases c with _ | _
      · rw [if_neg (by simp)] at hd
        have HD := Lib.hid hd
        clear hd
        go_wp2_with fail
        refine HC.out.mono ?_
        rintro e w' ⟨rfl, hb'⟩
        go_wp2
        go_roundw
        case rel => exact ⟨k + 1, by omega, by go_num, HD.out, belowThen hbw hb'⟩
        case measure => simp [intOf]; omega
      · rw [if_pos rfl] at hd
        subst hd
        go_wp2_with fail
        refine HC.out.mono ?_
        rintro e w' ⟨rfl, hb'⟩
        go_wp2
        go_ret
        exact ⟨rfl, belowThen hbw hb'⟩
    · have hkn : k = n := by omega
      subst hkn
      rw [List.drop_eq_nil_of_le (by omega)] at hd
      unfold idxFromP at hd
      subst hd
      clear hR hn
      go_wp2
      go_ret
      exact ⟨rfl, hbw⟩
theorem ContainsFunc_any (K : Nat) (c0 : Value) (p : Int → Bool) (ao : Option Addr) (n cap : Nat) (L : List Int) (w : World) (hr : RdI w ao L) (hn : L.length = n) (hm : n ≤ maxLen) (hf : Tells K c0 p L w) (hK : Enters K) :
    Calls Tryz.prog 80 #[.slice ao n cap, .func (.func K) #[] #[c0]] w fun e w' => e = .returned (.bool (L.any p)) ∧ Below w.heap.size w w' := by
  have HG := Lib.hid (idxFromP_ge p L 0)
  have HC := Lib.hid (IndexFunc_any K c0 p ao n cap L w hr hn hm hf hK)
  clear hr hf hK
  go_enter Tryz.func80, Tryz.ntmps80
  go_wp2_with (go_at_call 105; refine HC.out.mono ?_; rintro e w' ⟨rfl, hb⟩)
  go_ret
  exact ⟨ret_bool HG.out, hb⟩
end Go.Proofs.YtcddfpbohejhhaaGreat
