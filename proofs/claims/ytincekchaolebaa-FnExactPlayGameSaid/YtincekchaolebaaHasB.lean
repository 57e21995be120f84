/- Contracts of the library's search for false in a slice of bools, and of MissWins's function. -/
import Derived.Test.YtincekchaolebaaTabV
import Derived.Lib.Hide
namespace Go.Proofs.Ytincekchaolebaa
open Go.RowKit

/-- The place of the first false, the first element having the place n, or -1. -/
def idxB : List Bool → Nat → Int
  | [], _ => -1
  | y :: ys, n => if y = false then (n : Int) else idxB ys (n + 1)
theorem idxB_ge (L : List Bool) (n : Nat) : (decide (0 ≤ idxB L n)) = L.contains false := by
  induction L generalizing n with
  | nil => simp [idxB]
  | cons y ys ih =>
    unfold idxB
    cases y
    · simp
    · rw [if_neg (by decide), ih]; simp
theorem dropB (L : List Bool) (k : Nat) (h : k < L.length) : L.drop k = L.getD k false :: L.drop (k + 1) := by
  rw [List.drop_eq_getElem_cons h]; simp [h]
/-- A slice reads as the bools. -/
def RdB (w : World) (ao : Option Addr) (L : List Bool) : Prop := L = [] ∨ ∃ b off, ao = some ⟨b, off, none⟩ ∧ b < w.heap.size ∧ ∀ j, j < L.length → w.cell? ⟨b, off + j, none⟩ = some (.bool (L.getD j false))
theorem RdB_of_V {w : World} {ao : Option Addr} {vs : List Bool} (h : RdV w ao (vs.map Value.bool)) : RdB w ao vs := by
  rcases h with h | ⟨b, off, rfl, hlt, hc⟩
  · exact .inl (by simpa using h)
  · refine .inr ⟨b, off, rfl, hlt, fun j hj => ?_⟩
    rw [hc j (by simpa using hj)]
    simp [hj]
theorem RdB_below {w w' : World} {ao : Option Addr} {vs : List Bool} (h : RdB w ao vs) (hb : Below w.heap.size w w') : RdB w' ao vs := by
  rcases h with h | ⟨b, off, rfl, hlt, hc⟩
  · exact .inl h
  · have := hb.size
    exact .inr ⟨b, off, rfl, by omega, fun j hj => (hb.cell (p := ⟨b, off + j, none⟩) (by show b < _; omega)).trans (hc j hj)⟩
theorem sliceIndexB_any (ao : Option Addr) (n cap : Nat) (L : List Bool) (w : World) (hr : RdB w ao L) (hn : L.length = n) (hm : n ≤ 1000000) :
    Calls Try.prog 92 #[.slice ao n cap, .bool false] w fun e w' => e = .returned (.int .i64 (idxB L 0)) ∧ w = w' := by
  obtain ⟨R, hR⟩ : ∃ R, idxB L 0 = R := ⟨_, rfl⟩
  rw [hR]
  go_enter Try.func92, Try.ntmps92
  go_wp2
  go_loop [8] (fun i => ∃ k : Nat, k ≤ n ∧ i = .int .i64 k ∧ idxB (L.drop k) k = R) (fun i => n - (intOf i).toNat)
  case atStart => exact ⟨0, by omega, rfl, by simpa using hR⟩
  case round =>
    obtain ⟨k, hle, rfl, hd⟩ := hrel
    by_cases hlt : k < n
    · rcases hr with h | ⟨b1, o1, rfl, hb1, hc1⟩
      · rw [h] at hn; simp at hn; omega
      have hx := hc1 k (by omega)
      rw [dropB L k (by omega)] at hd
      unfold idxB at hd
      generalize L.getD k false = y at hx hd
      clear hc1 hR hn
      cases y
      · rw [if_pos rfl] at hd
        subst hd
        go_wp2
        go_ret
        exact ⟨rfl, rfl⟩
      · rw [if_neg (by decide)] at hd
        have HD := Lib.hid hd
        clear hd
        go_wp2
        go_round
        case rel => exact ⟨k + 1, by omega, by go_num, HD.out⟩
        case measure => simp [intOf]; omega
    · have hkn : k = n := by omega
      subst hkn
      rw [List.drop_eq_nil_of_le (by omega)] at hd
      unfold idxB at hd
      subst hd
      clear hR hn
      go_wp2
      go_ret
      exact ⟨rfl, rfl⟩
theorem sliceContainsB_any (ao : Option Addr) (n cap : Nat) (L : List Bool) (w : World) (hr : RdB w ao L) (hn : L.length = n) (hm : n ≤ 1000000) :
    Calls Try.prog 61 #[.slice ao n cap, .bool false] w fun e w' => e = .returned (.bool (L.contains false)) ∧ w = w' := by
  have HG := Lib.hid (idxB_ge L 0)
  go_enter Try.func61, Try.ntmps61
  go_wp2_with (go_at_call 92; refine (sliceIndexB_any _ _ _ L _ hr hn hm).mono ?_; rintro e w' ⟨rfl, rfl⟩)
  go_ret
  exact ⟨ret_bool HG.out, rfl⟩
def missF (_ : Nat) (vs : List Bool) : Bool := decide (vs.length = 0) || vs.contains false
theorem MissWins1_any (c : Int) (ao : Option Addr) (n cap : Nat) (L : List Bool) (w : World) (hr : RdB w ao L) (hn : L.length = n) (hm : n ≤ 1000000) :
    Calls Try.prog 63 #[.int .i64 c, .slice ao n cap] w fun e w' => e = .returned (.bool (missF 0 L)) ∧ w = w' := by
  unfold missF
  rw [hn]
  by_cases h0 : n = 0
  · subst h0
    go_enter Try.func63, Try.ntmps63
    go_wp2
    go_ret
    exact ⟨rfl, rfl⟩
  · rw [decide_eq_false h0, Bool.false_or]
    have hz : ((n : Int) == 0) = false := by simp; omega
    have HM := Lib.hid (sliceContainsB_any ao n cap L w hr hn hm)
    generalize L.contains false = s at HM ⊢
    clear hr hn
    go_enter Try.func63, Try.ntmps63
    go_wp2_with (first | (go_at_call 61; refine HM.out.mono ?_; rintro e w1 ⟨rfl, rfl⟩))
    go_ret
    exact ⟨rfl, rfl⟩
end Go.Proofs.Ytincekchaolebaa
