/- Joined texts: ToS, EqS, MarkO. -/
import Derived.Test.YtcddfpbohejhhacMg11
import Derived.Lib.Hide
import Derived.Test.YtcddfpbohejhhacMg01
import Derived.Deep.QuietTactic
import Derived.BigQuiet
namespace Go.Proofs.Ytcddfpbohejhhac
open Go.RowKit

/-- The first j numbers are copied, the others are 0. -/
def copyP (L : List Int) (j : Nat) : List Int := L.take j ++ List.replicate (L.length - j) 0
theorem copyP_zero (L : List Int) : copyP L 0 = List.replicate L.length 0 := by simp [copyP]
theorem copyP_all (L : List Int) : copyP L L.length = L := by simp [copyP]
theorem copyP_length (L : List Int) (j : Nat) (hj : j ≤ L.length) : (copyP L j).length = L.length := by simp [copyP]; omega
theorem copyP_succ (L : List Int) (j : Nat) (hj : j < L.length) : (copyP L j).set j (L.getD j 0) = copyP L (j + 1) := by
  apply List.ext_getElem?
  intro i
  have h1 : (L.take j).length = j := by simp; omega
  have h2 : (L.take (j + 1)).length = j + 1 := by simp; omega
  simp only [copyP, List.getElem?_set, List.length_append, h1, List.length_replicate]
  by_cases hij : j = i
  · subst hij
    rw [if_pos rfl, if_pos (by omega), List.getElem?_append_left (by omega), List.getElem?_take_of_lt (by omega)]
    simp [hj]
  · rw [if_neg hij]
    by_cases hlt : i < j
    · rw [List.getElem?_append_left (by omega), List.getElem?_append_left (by omega), List.getElem?_take_of_lt hlt, List.getElem?_take_of_lt (by omega)]
    · rw [List.getElem?_append_right (by omega), List.getElem?_append_right (by omega), h1, h2]
      simp only [List.getElem?_replicate]
      by_cases h3 : i < L.length
      · rw [if_pos (by omega), if_pos (by omega)]
      · rw [if_neg (by omega), if_neg (by omega)]

/-- A copy of the numbers is returned. -/
def RetCopy (L : List Int) (n : Nat) (w : World) (e : Ending) (w' : World) : Prop := ∃ g, e = .returned (.slice (some ⟨g, 0, none⟩) n n) ∧ ownsInts w' w.heap.size (.slice (some ⟨g, 0, none⟩) n n) L ∧ Below w.heap.size w w'
theorem toIntS_any (ao : Option Addr) (n cap : Nat) (L : List Int) (w : World) (hr : RdI w ao L) (hn : L.length = n) (hm : n ≤ 1048576) :
    Calls Try.prog 5 #[.slice ao n cap] w (RetCopy L n w) := by
  obtain ⟨i0, hi, hz0, hz1, hz2⟩ := info_parts infoInt
  have hA1 := @cellAlloc; have hA2 := @frozenAlloc; have hA3 := @setCellAlloc; go_enter Try.func5, Try.ntmps5
  go_wp2_with (at_make; refine wpList_make_full _ (by rfl) _ _ _ (by rfl) w.heap.size 3 i0 (.int .i64 0) 1 Try.underlying22 hi hz0 hz1 _ _ _ _ n (by rfl) (by rfl) (by rfl) (by rfl) (by rw [hz2]; omega) (by unfold maxLen; omega) (Nat.le_refl _) ?_; intro w1 hown1 hg1)
  have hown : ownsInts w1 w.heap.size (.slice (some ⟨w.heap.size, 0, none⟩) n n) (copyP L 0) := by
    rw [copyP_zero, hn]
    refine .inl ?_
    have e1 : (madeCells (Value.int .i64 0).cells (n * 1)).toList = (List.replicate n (0 : Int)).map (Value.int .i64) := by
      rw [Nat.mul_one]; exact (toList_madeCells_one _ _).trans (by simp)
    rw [e1] at hown1
    simpa using hown1
  have hb1 : Below w.heap.size w w1 := (Below.refl _ _).grown hg1 (Nat.le_refl _) (fun k hk => by cases hk)
  clear hown1 hg1 hi hz0 hz1 hz2
  obtain ⟨g, hg⟩ : ∃ g, w.heap.size = g := ⟨_, rfl⟩
  rw [hg] at hown hb1 ⊢
  have HG := Lib.hid hg
  clear hg
  go_loopw [4] (fun i wr => ∃ k : Nat, k ≤ n ∧ i = .int .i64 k ∧ ownsInts wr g (.slice (some ⟨g, 0, none⟩) n n) (copyP L k) ∧ Below g w wr) (fun i _ => n - (intOf i).toNat)
  case atStart => exact ⟨0, by omega, rfl, hown, hb1⟩
  case round =>
    obtain ⟨k, hk, rfl, hownr, hbw⟩ := hrel
    by_cases hlt : k < n
    · have hlen := copyP_length L k (by omega)
      have hr' := RdI_below hr (by rw [HG.out]; exact hbw)
      rcases hr' with h | ⟨b1, o1, rfl, hb1', hc1⟩
      · rw [h] at hn; simp at hn; omega
      have hx := hc1 k (by omega)
      have hset := ownsInts_set hownr (by omega) k (L.getD k 0)
      rw [copyP_succ L k (by omega)] at hset
      obtain ⟨ao', cap', he, hL | ⟨g', rfl, hBg, hg', _, hc⟩⟩ := ownsInts_shape hownr
      · rw [hL] at hlen; simp at hlen; omega
      simp only [Value.slice.injEq, Option.some.injEq, Addr.mk.injEq] at he
      obtain ⟨⟨rfl, -⟩, -⟩ := he
      have hcell := hc k (by omega)
      have hfr := ownsInts_frozen hownr (by omega) k
      have hbs : Below g w (wr.setCell ⟨g, k, none⟩ (.int .i64 (L.getD k 0))) := hbw.setCell (Nat.le_refl _) _
      clear hc hc1 hr hown hownr hn hlen
      go_wp2
      go_roundw
      case rel => exact ⟨k + 1, by omega, by go_num, hset, hbs⟩
      case measure => simp [intOf]; omega
    · have hkn : k = n := by omega
      subst hkn
      go_wp2
      go_ret
      exact ⟨_, rfl, by rw [← hn, copyP_all] at hownr; rw [HG.out, ← hn]; exact hownr, by rw [HG.out]; exact hbw⟩
end Go.Proofs.Ytcddfpbohejhhac

namespace Go.Proofs.Ytcddfpbohejhhac
open Go.RowKit

theorem eqIntS_same (ao bo : Option Addr) (n ca cb : Nat) (L : List Int) (w : World) (ha : RdI w ao L) (hb : RdI w bo L) (hn : L.length = n) (hm : n ≤ maxLen) :
    Calls Try.prog 7 #[.slice ao n ca, .slice bo n cb] w fun e w' => e = .returned (.bool true) ∧ Below w.heap.size w w' := by
  unfold maxLen at hm
  go_enter Try.func7, Try.ntmps7
  go_wp2
  go_loopw [5] (fun i wr => ∃ k : Nat, k ≤ n ∧ i = .int .i64 k ∧ Below w.heap.size w wr) (fun i _ => n - (intOf i).toNat)
  case atStart => exact ⟨0, by omega, rfl, Below.refl _ _⟩
  case round =>
    obtain ⟨k, hk, rfl, hbw⟩ := hrel
    by_cases hlt : k < n
    · have ha' := RdI_below ha hbw
      have hb' := RdI_below hb hbw
      rcases ha' with h | ⟨b1, o1, rfl, hb1, hc1⟩
      · rw [h] at hn; simp at hn; omega
      rcases hb' with h | ⟨b2, o2, rfl, hb2, hc2⟩
      · rw [h] at hn; simp at hn; omega
      have hx := hc1 k (by omega)
      have hy := hc2 k (by omega)
      clear hc1 hc2 ha hb hn
      go_wp2_with fail
      go_quiet (fail)
      go_wp2
      go_roundw
      case rel => exact ⟨k + 1, by omega, by go_num, belowThen hbw (Go.Joins.below_draws _ _ _)⟩
      case measure => simp [intOf]; omega
    · go_wp2
      go_ret
      exact ⟨rfl, hbw⟩
end Go.Proofs.Ytcddfpbohejhhac

namespace Go.Proofs.Ytcddfpbohejhhac
open Go.RowKit

/-- No block but g is changed. -/
def OnlyB (n g : Nat) (w w' : World) : Prop := w'.heap.size = w.heap.size ∧ ∀ k, n = 0 ∨ k ≠ g → w'.heap[k]? = w.heap[k]?
theorem OnlyB_set {n g : Nat} {w w' : World} (h : OnlyB n g w w') (hn : 0 < n) (j : Nat) (v : Value) : OnlyB n g w (w'.setCell ⟨g, j, none⟩ v) := by
  refine ⟨by rw [heapSet]; exact h.1, fun k hk0 => ?_⟩
  rw [← h.2 k hk0]
  have hk : k ≠ g := by rcases hk0 with h | h <;> omega
  exact Below.heap_setCell _ _ _ _ (by first | exact hk | exact Ne.symm hk | (show _ ≠ _; omega))
/-- What is owned in later blocks stays. -/
theorem ownsG_only {w w' : World} {g B : Nat} {e : TypeId} {size : Nat} {v : Value} {n : Nat} {xs : List Value} (h : ownsG w B e size v n xs) {m : Nat} (ho : OnlyB m g w w') (hg : m = 0 ∨ g < B) : ownsG w' B e size v n xs := by
  rcases h with h | h
  · refine .inl ⟨h.1, ?_⟩
    rcases h.2 with h2 | ⟨g', cap, cur, rfl, hBg, hg', r⟩
    · exact .inl h2
    · exact .inr ⟨g', cap, cur, rfl, hBg, by rw [ho.2 g' (by omega)]; exact hg', r⟩
  · exact .inr h
theorem own_lt {w w2 : World} {B g n cap : Nat} {L : List Int} (ho : ownsInts w B (.slice (some ⟨g, 0, none⟩) n cap) L) (hn : L.length = n) (hsz : w.heap.size ≤ w2.heap.size) : n = 0 ∨ g < w2.heap.size := by
  obtain ⟨ao', cap', he, hL | ⟨g', rfl, hBg, hg, _, _⟩⟩ := ownsInts_shape ho
  · left; rw [hL] at hn; simpa using hn.symm
  · simp only [Value.slice.injEq, Option.some.injEq, Addr.mk.injEq] at he
    obtain ⟨⟨rfl, -⟩, -, -⟩ := he
    exact .inr (by omega)
set_option maxHeartbeats 400000 in
theorem markIntS_only (B : Nat) (g n cap : Nat) (L : List Int) (k0 : Int) (w : World) (ho : ownsInts w B (.slice (some ⟨g, 0, none⟩) n cap) L) (hn : L.length = n) (hm : n ≤ 1048576) (hk : 0 ≤ k0) (hk2 : k0 ≤ 4294967296) :
    Calls Try.prog 8 #[.slice (some ⟨g, 0, none⟩) n cap, .int .i64 k0] w fun e w' => e = .returned (.int .i64 (k0 + n)) ∧ OnlyB n g w w' ∧ Below B w w' := by
  go_enter Try.func8, Try.ntmps8
  go_wp2
  go_loopw [1, 5] (fun m i wr => ∃ k : Nat, k ≤ n ∧ i = .int .i64 k ∧ m = .int .i64 (k0 + k) ∧ ownsInts wr B (.slice (some ⟨g, 0, none⟩) n cap) (marksP k0 L k) ∧ OnlyB n g w wr ∧ Below B w wr) (fun _ i _ => n - (intOf i).toNat)
  case atStart => exact ⟨0, by omega, rfl, by simp, by simpa [marksP] using ho, ⟨rfl, fun _ _ => rfl⟩, Below.refl _ _⟩
  case round =>
    obtain ⟨k, hle, rfl, rfl, hown, hon, hbw⟩ := hrel
    by_cases hlt : k < n
    · have hlen := marksP_length k0 L k (by omega)
      obtain ⟨ao', cap', he, hL | ⟨g', rfl, hBg, hg, _, hc⟩⟩ := ownsInts_shape hown
      · rw [hL] at hlen; simp at hlen; omega
      simp only [Value.slice.injEq, Option.some.injEq, Addr.mk.injEq] at he
      obtain ⟨⟨rfl, -⟩, -, -⟩ := he
      have hcell := hc k (by omega)
      have hfr : wr.frozen? ⟨g, k, none⟩ = false := ownsInts_frozen hown (by omega) k
      have hset := ownsInts_set hown (by omega) k (k0 + k)
      rw [marksP_succ k0 L k (by omega)] at hset
      have hbs : Below B w (wr.setCell ⟨g, k, none⟩ (.int .i64 (k0 + k))) := hbw.setCell (by exact hBg) _
      have hos := OnlyB_set hon (by omega) k (.int .i64 (k0 + k))
      clear ho hc hown hn hlen hon
      go_wp2
      go_roundw
      case rel => exact ⟨k + 1, by omega, by go_num, by go_num, hset, hos, hbs⟩
      case measure => simp [intOf]; omega
    · have hkn : k = n := by omega
      subst hkn
      go_wp2
      go_ret
      exact ⟨rfl, hon, hbw⟩
end Go.Proofs.Ytcddfpbohejhhac
