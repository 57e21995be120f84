/- Contracts of the law's own helpers on slices of integers: equal, marked, held, copied. -/
import Derived.Test.YtfjgleimdaailaaOwn
import Derived.Lib.Hide
import Derived.Deep.QuietTactic
import Derived.BigQuiet
namespace Go.Proofs.Ytfjgleimdaailaa
open Go.RowKit

/-- A slice at ao reads as the numbers L. -/
def RdI (w : World) (ao : Option Addr) (L : List Int) : Prop :=
  L = [] ∨ ∃ b off, ao = some ⟨b, off, none⟩ ∧ b < w.heap.size ∧ ∀ j, j < L.length → w.cell? ⟨b, off + j, none⟩ = some (.int .i64 (L.getD j 0))
theorem RdI_below {w w' : World} {ao : Option Addr} {L : List Int} (h : RdI w ao L) (hb : Below w.heap.size w w') : RdI w' ao L := by
  rcases h with h | ⟨b, off, rfl, hlt, hc⟩
  · exact .inl h
  · have := hb.size
    exact .inr ⟨b, off, rfl, by omega, fun j hj => (hb.cell (p := ⟨b, off + j, none⟩) (by show b < _; omega)).trans (hc j hj)⟩
theorem RdI_owns {w : World} {B : Nat} {ao : Option Addr} {n cap : Nat} {L : List Int} (h : ownsInts w B (.slice ao n cap) L) : RdI w ao L := by
  obtain ⟨ao', cap', he, hL | ⟨g, rfl, _, hlt, _, hc⟩⟩ := ownsInts_shape h
  · exact .inl hL
  · simp only [Value.slice.injEq] at he
    obtain ⟨rfl, _, _⟩ := he
    exact .inr ⟨g, 0, rfl, hlt, fun j hj => by simpa using hc j hj⟩
theorem RdI_row {w : World} {ao : Option Addr} {len cap : Nat} {zs : List Int} (h : RowIn .i64 w ao len cap zs) : RdI w ao (zs.take len) ∧ (zs.take len).length = len ∧ len ≤ maxLen := by
  rcases h with ⟨rfl, rfl, rfl, rfl⟩ | ⟨x, rfl, hl, hm, hz, hc, _⟩
  · exact ⟨.inl rfl, rfl, Nat.zero_le _⟩
  · have hlen : (zs.take len).length = len := by rw [List.length_take]; omega
    refine ⟨?_, hlen, by omega⟩
    by_cases h0 : len = 0
    · subst h0; exact .inl (by simp)
    · right
      obtain ⟨b, off, rfl, hcell⟩ := ints_at hc (by omega)
      have h00 := hcell 0 (by omega)
      refine ⟨b, off, rfl, World.block_lt_of_cell? w _ h00, fun j hj => ?_⟩
      rw [hcell j (by omega)]
      congr 2
      simp only [List.getD_eq_getElem?_getD]
      rw [List.getElem?_take_of_lt (by omega)]

theorem eqIntS_same (ao bo : Option Addr) (n ca cb : Nat) (L : List Int) (w : World) (ha : RdI w ao L) (hb : RdI w bo L) (hn : L.length = n) (hm : n ≤ maxLen) :
    Calls Try.prog 27 #[.slice ao n ca, .slice bo n cb] w fun e w' => e = .returned (.bool true) ∧ Below w.heap.size w w' := by
  unfold maxLen at hm
  go_enter Try.func27, Try.ntmps27
  go_wp2
  go_loopw [5] (fun i wr => ∃ k : Nat, k ≤ n ∧ i = .int .i64 k ∧ Below w.heap.size w wr) (fun i _ => n - (intOf i).toNat)
  case atStart => exact ⟨0, by omega, rfl, Below.refl _ _⟩
  case round =>
    obtain ⟨k, hk, rfl, hbw⟩ := hrel
    by_cases hlt : k < n
    · have ha' := RdI_below ha hbw
      have hb' := RdI_below hb hbw
      rcases ha' with h | ⟨b1, o1, rfl, hb1, hc1⟩
      · rw [h] at hn; simp at hn; omega
      rcases hb' with h | ⟨b2, o2, rfl, hb2, hc2⟩
      · rw [h] at hn; simp at hn; omega
      have hx := hc1 k (by omega)
      have hy := hc2 k (by omega)
      clear hc1 hc2 ha hb hn
      go_wp2_with fail
      go_quiet (fail)
      go_wp2
      go_roundw
      case rel => exact ⟨k + 1, by omega, by go_num, belowThen hbw (Go.Joins.below_draws _ _ _)⟩
      case measure => simp [intOf]; omega
    · go_wp2
      go_ret
      exact ⟨rfl, hbw⟩

/-- The first j numbers are marked: k0, k0 + 1 .. -/
def marksP (k0 : Int) (L : List Int) (j : Nat) : List Int := ((List.range j).map fun (i : Nat) => k0 + (i : Int)) ++ L.drop j
/-- A marked list. -/
def marksL (k0 : Int) (n : Nat) : List Int := (List.range n).map fun (i : Nat) => k0 + (i : Int)
theorem marksP_length (k0 : Int) (L : List Int) (j : Nat) (hj : j ≤ L.length) : (marksP k0 L j).length = L.length := by
  simp [marksP]; omega
theorem marksP_all (k0 : Int) (L : List Int) : marksP k0 L L.length = marksL k0 L.length := by simp [marksP, marksL]
theorem marksP_succ (k0 : Int) (L : List Int) (j : Nat) (hj : j < L.length) : (marksP k0 L j).set j (k0 + (j : Int)) = marksP k0 L (j + 1) := by
  apply List.ext_getElem?
  intro i
  have h1 : ((List.range j).map fun (i : Nat) => k0 + (i : Int)).length = j := by simp
  have h2 : ((List.range (j + 1)).map fun (i : Nat) => k0 + (i : Int)).length = j + 1 := by simp
  simp only [marksP, List.getElem?_set, List.length_append, h1, List.length_drop]
  by_cases hij : j = i
  · subst hij
    rw [if_pos rfl, if_pos (by omega), List.getElem?_append_left (by omega)]
    simp
  · rw [if_neg hij]
    by_cases hlt : i < j
    · rw [List.getElem?_append_left (by omega), List.getElem?_append_left (by omega)]
      simp [hlt, show i < j + 1 by omega]
    · rw [List.getElem?_append_right (by omega), List.getElem?_append_right (by omega), h1, h2]
      simp only [List.getElem?_drop]
      congr 1
      omega
theorem marksL_getD (k0 : Int) (n j : Nat) (hj : j < n) : (marksL k0 n).getD j 0 = k0 + (j : Int) := by
  simp [marksL, hj]
theorem marksL_length (k0 : Int) (n : Nat) : (marksL k0 n).length = n := by simp [marksL]
/-- One number of an owned row is written. -/
theorem ownsInts_set {w : World} {B g n cap : Nat} {L : List Int} (h : ownsInts w B (.slice (some ⟨g, 0, none⟩) n cap) L) (hn : L.length = n) (j : Nat) (z : Int) :
    ownsInts (w.setCell ⟨g, j, none⟩ (.int .i64 z)) B (.slice (some ⟨g, 0, none⟩) n cap) (L.set j z) := by
  subst hn
  rcases h with h | ⟨h0, h1, a, h2⟩
  · have := (World.ownsRow.stored h j (.int .i64 z)).1
    refine .inl ?_
    simpa [List.map_set] using this
  · have : L = [] := List.eq_nil_of_length_eq_zero h0
    subst this
    exact .inr ⟨rfl, rfl, a, h2⟩
set_option maxHeartbeats 400000 in
theorem markIntS_any (B : Nat) (ao : Option Addr) (n cap : Nat) (L : List Int) (k0 : Int) (w : World) (ho : ownsInts w B (.slice ao n cap) L) (hn : L.length = n) (hm : n ≤ maxLen) (hk : 0 ≤ k0) (hk2 : k0 + n ≤ 9223372036854775807) :
    Calls Try.prog 34 #[.slice ao n cap, .int .i64 k0] w fun e w' => e = .returned (.int .i64 (k0 + n)) ∧ ownsInts w' B (.slice ao n cap) (marksL k0 n) ∧ Below B w w' := by
  unfold maxLen at hm
  go_enter Try.func34, Try.ntmps34
  go_wp2
  go_loopw [1, 5] (fun m i wr => ∃ k : Nat, k ≤ n ∧ i = .int .i64 k ∧ m = .int .i64 (k0 + k) ∧ ownsInts wr B (.slice ao n cap) (marksP k0 L k) ∧ Below B w wr) (fun _ i _ => n - (intOf i).toNat)
  case atStart => exact ⟨0, by omega, rfl, by simp, by simpa [marksP] using ho, Below.refl _ _⟩
  case round =>
    obtain ⟨k, hle, rfl, rfl, hown, hbw⟩ := hrel
    by_cases hlt : k < n
    · have hlen := marksP_length k0 L k (by omega)
      obtain ⟨ao', cap', he, hL | ⟨g, rfl, hBg, hg, _, hc⟩⟩ := ownsInts_shape hown
      · rw [hL] at hlen; simp at hlen; omega
      simp only [Value.slice.injEq] at he
      obtain ⟨rfl, -, -⟩ := he
      have hcell := hc k (by omega)
      have hfr : wr.frozen? ⟨g, k, none⟩ = false := ownsInts_frozen hown (by omega) k
      have hset := ownsInts_set hown (by omega) k (k0 + k)
      rw [marksP_succ k0 L k (by omega)] at hset
      have hbs : Below B w (wr.setCell ⟨g, k, none⟩ (.int .i64 (k0 + k))) := hbw.setCell (by exact hBg) _
      clear ho hc hown hn hlen
      go_wp2
      go_roundw
      case rel => exact ⟨k + 1, by omega, by go_num, by go_num, hset, hbs⟩
      case measure => simp [intOf]; omega
    · have hkn : k = n := by omega
      subst hkn
      go_wp2
      go_ret
      exact ⟨rfl, by rw [← hn, ← marksP_all, hn]; exact hown, hbw⟩
theorem heldIntS_any (ao : Option Addr) (n cap : Nat) (k0 : Int) (w : World) (hr : RdI w ao (marksL k0 n)) (hm : n ≤ maxLen) (hk : 0 ≤ k0) (hk2 : k0 + n ≤ 9223372036854775807) :
    Calls Try.prog 35 #[.slice ao n cap, .int .i64 k0] w fun e w' => e = .returned (.int .i64 (k0 + n)) ∧ w = w' := by
  unfold maxLen at hm
  go_enter Try.func35, Try.ntmps35
  go_wp2
  go_loop [1, 5] (fun m i => ∃ k : Nat, k ≤ n ∧ i = .int .i64 k ∧ m = .int .i64 (k0 + k)) (fun _ i => n - (intOf i).toNat)
  case atStart => exact ⟨0, by omega, rfl, by simp⟩
  case round =>
    obtain ⟨k, hle, rfl, rfl⟩ := hrel
    by_cases hlt : k < n
    · have hlen := marksL_length k0 n
      rcases hr with h | ⟨b1, o1, rfl, hb1, hc1⟩
      · rw [h] at hlen; simp at hlen; omega
      have hx := hc1 k (by omega)
      rw [marksL_getD k0 n k hlt] at hx
      clear hc1 hlen
      go_wp2
      go_round
      case rel => exact ⟨k + 1, by omega, by go_num, by go_num⟩
      case measure => simp [intOf]; omega
    · have hkn : k = n := by omega
      subst hkn
      go_wp2
      go_ret
      exact ⟨rfl, rfl⟩
end Go.Proofs.Ytfjgleimdaailaa
