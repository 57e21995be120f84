/- The contract of the law's own marking of a slice of numbers: no other block is changed. -/
import Derived.Test.YtincekchaolebaaMarks
import Derived.Lib.Hide
import Derived.Deep.QuietTactic
import Derived.BigQuiet
namespace Go.Proofs.Ytincekchaolebaa
open Go.RowKit

/-- No block but g is changed. -/
def OnlyB (n g : Nat) (w w' : World) : Prop := w'.heap.size = w.heap.size ∧ ∀ k, n = 0 ∨ k ≠ g → w'.heap[k]? = w.heap[k]?
theorem OnlyB_set {n g : Nat} {w w' : World} (h : OnlyB n g w w') (hn : 0 < n) (j : Nat) (v : Value) : OnlyB n g w (w'.setCell ⟨g, j, none⟩ v) := by
  refine ⟨by rw [heapSet]; exact h.1, fun k hk0 => ?_⟩
  rw [← h.2 k hk0]
  have hk : k ≠ g := by rcases hk0 with h | h <;> omega
  exact Below.heap_setCell _ _ _ _ (by first | exact hk | exact Ne.symm hk | (show _ ≠ _; omega))
/-- What is owned in later blocks stays. -/
theorem ownsG_only {w w' : World} {g B : Nat} {e : TypeId} {size : Nat} {v : Value} {n : Nat} {xs : List Value} (h : ownsG w B e size v n xs) {m : Nat} (ho : OnlyB m g w w') (hg : m = 0 ∨ g < B) : ownsG w' B e size v n xs := by
  rcases h with h | h
  · refine .inl ⟨h.1, ?_⟩
    rcases h.2 with h2 | ⟨g', cap, cur, rfl, hBg, hg', r⟩
    · exact .inl h2
    · exact .inr ⟨g', cap, cur, rfl, hBg, by rw [ho.2 g' (by omega)]; exact hg', r⟩
  · exact .inr h
theorem own_lt {w w2 : World} {B g n cap : Nat} {L : List Int} (ho : ownsInts w B (.slice (some ⟨g, 0, none⟩) n cap) L) (hn : L.length = n) (hsz : w.heap.size ≤ w2.heap.size) : n = 0 ∨ g < w2.heap.size := by
  obtain ⟨ao', cap', he, hL | ⟨g', rfl, hBg, hg, _, _⟩⟩ := ownsInts_shape ho
  · left; rw [hL] at hn; simpa using hn.symm
  · simp only [Value.slice.injEq, Option.some.injEq, Addr.mk.injEq] at he
    obtain ⟨⟨rfl, -⟩, -, -⟩ := he
    exact .inr (by omega)
set_option maxHeartbeats 400000 in
theorem markIntS_only (B : Nat) (g n cap : Nat) (L : List Int) (k0 : Int) (w : World) (ho : ownsInts w B (.slice (some ⟨g, 0, none⟩) n cap) L) (hn : L.length = n) (hm : n ≤ 1048576) (hk : 0 ≤ k0) (hk2 : k0 ≤ 4294967296) :
    Calls Try.prog 40 #[.slice (some ⟨g, 0, none⟩) n cap, .int .i64 k0] w fun e w' => e = .returned (.int .i64 (k0 + n)) ∧ OnlyB n g w w' ∧ Below B w w' := by
  go_enter Try.func40, Try.ntmps40
  go_wp2
  go_loopw [1, 5] (fun m i wr => ∃ k : Nat, k ≤ n ∧ i = .int .i64 k ∧ m = .int .i64 (k0 + k) ∧ ownsInts wr B (.slice (some ⟨g, 0, none⟩) n cap) (marksP k0 L k) ∧ OnlyB n g w wr ∧ Below B w wr) (fun _ i _ => n - (intOf i).toNat)
  case atStart => exact ⟨0, by omega, rfl, by simp, by simpa [marksP] using ho, ⟨rfl, fun _ _ => rfl⟩, Below.refl _ _⟩
  case round =>
    obtain ⟨k, hle, rfl, rfl, hown, hon, hbw⟩ := hrel
    by_cases hlt : k < n
    · have hlen := marksP_length k0 L k (by omega)
      obtain ⟨ao', cap', he, hL | ⟨g', rfl, hBg, hg, _, hc⟩⟩ := ownsInts_shape hown
      · rw [hL] at hlen; simp at hlen; omega
      simp only [Value.slice.injEq, Option.some.injEq, Addr.mk.injEq] at he
      obtain ⟨⟨rfl, -⟩, -, -⟩ := he
      have hcell := hc k (by omega)
      have hfr : wr.frozen? ⟨g, k, none⟩ = false := ownsInts_frozen hown (by omega) k
      have hset := ownsInts_set hown (by omega) k (k0 + k)
      rw [marksP_succ k0 L k (by omega)] at hset
      have hbs : Below B w (wr.setCell ⟨g, k, none⟩ (.int .i64 (k0 + k))) := hbw.setCell (by exact hBg) _
      have hos := OnlyB_set hon (by omega) k (.int .i64 (k0 + k))
      clear ho hc hown hn hlen hon
      go_wp2
      go_roundw
      case rel => exact ⟨k + 1, by omega, by go_num, by go_num, hset, hos, hbs⟩
      case measure => simp [intOf]; omega
    · have hkn : k = n := by omega
      subst hkn
      go_wp2
      go_ret
      exact ⟨rfl, hon, hbw⟩
end Go.Proofs.Ytincekchaolebaa
