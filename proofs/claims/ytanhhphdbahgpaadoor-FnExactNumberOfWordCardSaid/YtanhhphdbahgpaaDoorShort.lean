/- Contracts of the functions on words: the row of a short word, the cell of a letter, the bars that light. -/
import Derived.Test.YtanhhphdbahgpaaDoorRowW
import Derived.Test.YtanhhphdbahgpaaDoorCount
import Derived.Lib.Hide
namespace Go.Proofs.YtanhhphdbahgpaaDoor
open Go.RowKit

theorem wordB_all {s : ByteArray} {m : Nat} (h : wordB s m = true) : allIn s = true ∧ s.size ≤ m := by
  unfold wordB at h
  simp only [Bool.and_eq_true, decide_eq_true_eq] at h
  exact ⟨h.2, h.1⟩
theorem isShort_any (s : ByteArray) (w : World) (hs : s.size ≤ maxLen) :
    Calls Tryd.prog 24 #[.string s] w fun e w' => e = .returned (.bool (wordB s 6)) ∧ Below w.heap.size w w' := by
  have HI := Lib.hid (fun W => IsWordI_any s W hs)
  have hle : wordB s 6 = (wordB s 12 && decide (s.size ≤ 6)) := by
    unfold wordB
    by_cases h : s.size ≤ 6
    · rw [decide_eq_true h, decide_eq_true (by omega : s.size ≤ 12)]; simp
    · rw [decide_eq_false h]; simp
  unfold maxLen at hs
  rw [hle]
  generalize wordB s 12 = q at HI ⊢
  rcases q with _ | _
  · clear hle
    go_enter Tryd.func24, Tryd.ntmps24
    go_wp2_with (first | (go_at_call 39; refine (HI.out _).mono ?_; rintro e w1 ⟨rfl, hb1⟩))
    go_ret
    exact ⟨rfl, hb1⟩
  · clear hle
    by_cases h6 : s.size ≤ 6
    · have hd : decide ((s.size : Int) ≤ 6) = true := by simp; omega
      rw [decide_eq_true h6]
      go_enter Tryd.func24, Tryd.ntmps24
      go_wp2_with (first | (go_at_call 39; refine (HI.out _).mono ?_; rintro e w1 ⟨rfl, hb1⟩))
      go_ret
      exact ⟨rfl, hb1⟩
    · have hd : decide ((s.size : Int) ≤ 6) = false := by simp; omega
      rw [decide_eq_false h6]
      go_enter Tryd.func24, Tryd.ntmps24
      go_wp2_with (first | (go_at_call 39; refine (HI.out _).mono ?_; rintro e w1 ⟨rfl, hb1⟩))
      go_ret
      exact ⟨rfl, hb1⟩
/-- The row of a short word. -/
def rowO (s : ByteArray) : List Int := if wordB s 6 = true then rowW s else []
theorem rowO_le (s : ByteArray) : (rowO s).length ≤ 6 := by
  unfold rowO
  split
  · rename_i h
    rw [rowW_length]; exact (wordB_all h).2
  · exact Nat.zero_le _
/-- A slice of numbers of the call's own, and a bool, are returned. -/
def RetIntsB (L : List Int) (ok : Bool) (w : World) (e : Ending) (w' : World) : Prop := ∃ ao cap, e = .returned (.tuple #[.slice ao L.length cap, .bool ok]) ∧ ownsInts w' w.heap.size (.slice ao L.length cap) L ∧ Below w.heap.size w w'
/-- The text is one letter. -/
def letB (s : ByteArray) : Bool := decide (s.size = 1) && allIn s
def letZ (s : ByteArray) : Int := if letB s = true then (rowW s).getD 0 0 else 0
theorem wordB1 {s : ByteArray} (h : s.size = 1) (m : Nat) (hm : 1 ≤ m) : wordB s m = allIn s := by
  unfold wordB
  rw [decide_eq_true (by omega), Bool.true_and]
end Go.Proofs.YtanhhphdbahgpaaDoor
