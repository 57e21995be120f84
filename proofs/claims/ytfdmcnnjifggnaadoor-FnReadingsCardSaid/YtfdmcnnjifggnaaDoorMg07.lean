/- Joined texts: Count, Short, DrawBr, Marks. -/
import Derived.Test.YtfdmcnnjifggnaaDoorMg01
import Derived.Test.YtfdmcnnjifggnaaDoorMg02
import Derived.Lib.Hide
import Derived.Test.YtfdmcnnjifggnaaDoorMg06
import Derived.Deep.QuietTactic
import Derived.BigQuiet
namespace Go.Proofs.YtfdmcnnjifggnaaDoor
open Go.RowKit

/-- How many of the first k bars light. -/
def cntP (c : Nat) : Nat → Nat
  | 0 => 0
  | k + 1 => cntP c k + c / 2 ^ k % 2
/-- How many bars light. -/
def cnt (c : Nat) : Nat := cntP c 7
theorem cntP_le (c k : Nat) : cntP c k ≤ k := by
  induction k with
  | zero => exact Nat.le_refl _
  | succ k ih => have : c / 2 ^ k % 2 < 2 := Nat.mod_lt _ (by omega); unfold cntP; omega
theorem cnt_le (c : Nat) : cnt c ≤ 7 := cntP_le c 7
theorem bit_and (c k : Nat) (hc : c < 4611686018427387904) : bits .and .i64 ((c : Int) / 2 ^ k) 1 = ((c / 2 ^ k % 2 : Nat) : Int) := by
  have h1 : c / 2 ^ k ≤ c := Nat.div_le_self _ _
  have e : ((c : Int) / 2 ^ k) = ((c / 2 ^ k : Nat) : Int) := by simp
  rw [e, show (1 : Int) = ((1 : Nat) : Int) from rfl, and64 _ _ (by omega) (by omega), Nat.and_one_is_mod]
theorem l2Count_any (c : Nat) (hc : c < 128) (w : World) : Calls Tryd.prog 65 #[.int .i64 c] w
    fun e w' => e = .returned (.int .i64 (cnt c)) ∧ w = w' := by
  go_enter Tryd.func65, Tryd.ntmps65
  go_wp2
  go_loop [3, 4] (fun m i => ∃ k : Nat, k ≤ 7 ∧ i = .int .i64 k ∧ m = .int .i64 (cntP c k)) (fun _ i => 7 - (intOf i).toNat)
  case atStart => exact ⟨0, by omega, rfl, rfl⟩
  case round =>
    obtain ⟨k, hle, rfl, rfl⟩ := hrel
    have hl := cntP_le c k
    by_cases hlt : k < 7
    · have hb := bit_and c k (by omega)
      have hm : c / 2 ^ k % 2 < 2 := Nat.mod_lt _ (by omega)
      go_wp2
      go_round
      case rel => exact ⟨k + 1, by omega, by go_num, by simp [cntP]⟩
      case measure => simp [intOf]; omega
    · have hk : k = 7 := by omega
      subst hk
      go_wp2
      go_ret
      exact ⟨rfl, rfl⟩
theorem ret_of {a b : Int} {w : World} (h : a = b) : Ending.returned (.int .i64 a) = .returned (.int .i64 b) ∧ w = w := ⟨by rw [h], rfl⟩
theorem OnesCount64_any (c : Nat) (hc : c < 128) (w : World) : Calls Tryd.prog 83 #[.int .u64 c] w
    fun e w' => e = .returned (.int .i64 (cnt c)) ∧ w = w' := by
  go_enter Tryd.func83, Tryd.ntmps83
  go_wp2
  go_ret
  refine ret_of ?_
  obtain ⟨x, rfl⟩ : ∃ x : Fin 128, x.val = c := ⟨⟨c, hc⟩, rfl⟩
  clear hc w
  revert x
  decide +kernel
theorem OnesCount_any (c : Nat) (hc : c < 128) (w : World) : Calls Tryd.prog 70 #[.int .u64 c] w
    fun e w' => e = .returned (.int .i64 (cnt c)) ∧ w = w' := by
  go_enter Tryd.func70, Tryd.ntmps70
  go_wp2_with (go_at_call 83; refine (OnesCount64_any c hc _).mono ?_; rintro e w' ⟨rfl, rfl⟩)
  go_ret
  exact ⟨rfl, rfl⟩
theorem count_any (c : Nat) (hc : c < 128) (w : World) : Calls Tryd.prog 62 #[.int .i64 c] w
    fun e w' => e = .returned (.int .i64 (cnt c)) ∧ w = w' := by
  go_enter Tryd.func62, Tryd.ntmps62
  go_wp2_with (go_at_call 70; refine (OnesCount_any c hc _).mono ?_; rintro e w' ⟨rfl, rfl⟩)
  go_ret
  exact ⟨rfl, rfl⟩
end Go.Proofs.YtfdmcnnjifggnaaDoor

namespace Go.Proofs.YtfdmcnnjifggnaaDoor
open Go.RowKit

theorem wordB_all {s : ByteArray} {m : Nat} (h : wordB s m = true) : allIn s = true ∧ s.size ≤ m := by
  unfold wordB at h
  simp only [Bool.and_eq_true, decide_eq_true_eq] at h
  exact ⟨h.2, h.1⟩
theorem isShort_any (s : ByteArray) (w : World) (hs : s.size ≤ maxLen) :
    Calls Tryd.prog 52 #[.string s] w fun e w' => e = .returned (.bool (wordB s 6)) ∧ Below w.heap.size w w' := by
  have HI := Lib.hid (fun W => IsWordI_any s W hs)
  have hle : wordB s 6 = (wordB s 12 && decide (s.size ≤ 6)) := by
    unfold wordB
    by_cases h : s.size ≤ 6
    · rw [decide_eq_true h, decide_eq_true (by omega : s.size ≤ 12)]; simp
    · rw [decide_eq_false h]; simp
  unfold maxLen at hs
  rw [hle]
  generalize wordB s 12 = q at HI ⊢
  rcases q with _ | _
  · clear hle
    go_enter Tryd.func52, Tryd.ntmps52
    go_wp2_with (first | (go_at_call 60; refine (HI.out _).mono ?_; rintro e w1 ⟨rfl, hb1⟩))
    go_ret
    exact ⟨rfl, hb1⟩
  · clear hle
    by_cases h6 : s.size ≤ 6
    · have hd : decide ((s.size : Int) ≤ 6) = true := by simp; omega
      rw [decide_eq_true h6]
      go_enter Tryd.func52, Tryd.ntmps52
      go_wp2_with (first | (go_at_call 60; refine (HI.out _).mono ?_; rintro e w1 ⟨rfl, hb1⟩))
      go_ret
      exact ⟨rfl, hb1⟩
    · have hd : decide ((s.size : Int) ≤ 6) = false := by simp; omega
      rw [decide_eq_false h6]
      go_enter Tryd.func52, Tryd.ntmps52
      go_wp2_with (first | (go_at_call 60; refine (HI.out _).mono ?_; rintro e w1 ⟨rfl, hb1⟩))
      go_ret
      exact ⟨rfl, hb1⟩
/-- The row of a short word. -/
def rowO (s : ByteArray) : List Int := if wordB s 6 = true then rowW s else []
theorem rowO_le (s : ByteArray) : (rowO s).length ≤ 6 := by
  unfold rowO
  split
  · rename_i h
    rw [rowW_length]; exact (wordB_all h).2
  · exact Nat.zero_le _
/-- A slice of numbers of the call's own, and a bool, are returned. -/
def RetIntsB (L : List Int) (ok : Bool) (w : World) (e : Ending) (w' : World) : Prop := ∃ ao cap, e = .returned (.tuple #[.slice ao L.length cap, .bool ok]) ∧ ownsInts w' w.heap.size (.slice ao L.length cap) L ∧ Below w.heap.size w w'
theorem RowOfWordI_any (s : ByteArray) (hs : s.size ≤ maxLen) (w : World) : Calls Tryd.prog 22 #[.string s] w (RetIntsB (rowO s) (wordB s 6) w) := by
  have HW := Lib.hid (fun W => isShort_any s W hs)
  have hall := wordB_all (s := s) (m := 6)
  unfold rowO
  generalize wordB s 6 = q at HW hall ⊢
  rcases q with _ | _
  · rw [if_neg (by decide)]
    clear hall
    have hA1 := @cellAlloc; have hA2 := @frozenAlloc; have hA3 := @setCellAlloc; go_enter Tryd.func22, Tryd.ntmps22
    go_wp2_with (first | (go_at_call 52; refine (HW.out _).mono ?_; rintro e w1 ⟨rfl, hb1⟩))
    go_ret2
    exact ⟨_, _, rfl, ownsInts_nil _ _, by (repeat (first | assumption | exact Below.refl _ _ | refine belowThen ?_ (Go.Joins.below_alloc1 _ _) | apply Below.drew | refine belowThen ?_ (by assumption) | refine belowThen ?_ (Go.Joins.below_draws _ _ _) | refine Below.setCell ?_ (by first | exact Nat.le_refl _ | (simp; done) | (simp; omega)) _))⟩
  · rw [if_pos rfl]
    have h := hall rfl
    have HR := Lib.hid (fun W => rowOfWord_any s (by omega) h.1 W)
    generalize rowW s = L at HR ⊢
    clear hall h
    have hA1 := @cellAlloc; have hA2 := @frozenAlloc; have hA3 := @setCellAlloc; go_enter Tryd.func22, Tryd.ntmps22
    go_wp2_with (first | (go_at_call 52; refine (HW.out _).mono ?_; rintro e w1 ⟨rfl, hb1⟩) | (go_at_call 53; refine (HR.out _).mono ?_; rintro e w2 ⟨ao, ca, rfl, hown, hb2⟩))
    go_ret2
    exact ⟨ao, ca, rfl, ownsInts_le hown hb1.size, by (repeat (first | assumption | exact Below.refl _ _ | refine belowThen ?_ (Go.Joins.below_alloc1 _ _) | apply Below.drew | refine belowThen ?_ (by assumption) | refine belowThen ?_ (Go.Joins.below_draws _ _ _) | refine Below.setCell ?_ (by first | exact Nat.le_refl _ | (simp; done) | (simp; omega)) _))⟩
/-- The text is one letter. -/
def letB (s : ByteArray) : Bool := decide (s.size = 1) && allIn s
def letZ (s : ByteArray) : Int := if letB s = true then (rowW s).getD 0 0 else 0
theorem wordB1 {s : ByteArray} (h : s.size = 1) (m : Nat) (hm : 1 ≤ m) : wordB s m = allIn s := by
  unfold wordB
  rw [decide_eq_true (by omega), Bool.true_and]
end Go.Proofs.YtfdmcnnjifggnaaDoor

namespace Go.Proofs.YtfdmcnnjifggnaaDoor
open Go.RowKit

set_option maxHeartbeats 1600000 in
theorem DrawWordOfRow_any (ao : Option Addr) (n cap : Nat) (w : World) (h : RdY w ao n) : Calls Tryd.prog 24 #[.slice ao n cap] w fun e w' => RetOwn 30 w e w' ∧ Below w.heap.size w w' := by
  have hc0 := Cur_new w ao n cap 51 h
  go_enter Tryd.func24, Tryd.ntmps24
  go_wp2_with (go_at_call 38; refine (wordOfO _ hc0 (by omega)).mono ?_; rintro e w1 ⟨⟨s, hs, rfl⟩, hc1⟩)
  have hs2 := hc1.2.size
  have HW := Lib.hid (fun W => l10Word_any s 6 (by decide) (by unfold maxLen; omega) W)
  have hall := wordB_all (s := s) (m := 6)
  generalize wordB s 6 = q6 at HW hall
  rcases q6 with _ | _
  · clear hall
    go_wp2_with (first
      | (go_at_call 41; refine (HW.out _).mono ?_; rintro e w' ⟨rfl, rfl⟩)
      | (go_at_call 54; refine (rowDO hc1 (by omega)).mono ?_; rintro e w3 ⟨⟨a3, c3, L3, rfl, hL3, ho3⟩, hc3⟩))
    go_ret
    exact ⟨⟨a3, c3, L3, rfl, by omega, ownsInts_le ho3 hs2⟩, CurO.new hc3⟩
  · have hall2 := (hall rfl).1
    clear hall
    have HR := Lib.hid (fun W => l10Row_any s (by omega) hall2 W)
    have HLen := Lib.hid (rowW_length s)
    go_wp2_with (first
      | (go_at_call 41; refine (HW.out _).mono ?_; rintro e w' ⟨rfl, rfl⟩)
      | (go_at_call 25; refine (oneO _ hc1 (by omega)).mono ?_; rintro e w2 ⟨⟨q, rfl⟩, hc2⟩; have hs3 := hc2.2.size)
      | (go_at_call 54; refine (rowDO hc2 (by omega)).mono ?_; rintro e w3 ⟨⟨a3, c3, L3, rfl, hL3, ho3⟩, hc3⟩)
      | (go_at_call 55; refine (HR.out _).mono ?_; rintro e w4 ⟨a4, c4, rfl, ho4, hb4⟩))
    all_goals go_ret
    all_goals first
      | exact ⟨⟨a4, c4, rowW s, rfl, by have := HLen.out; omega, ownsInts_le ho4 hs3⟩, CurO.new (hc2.then hb4)⟩
      | exact ⟨⟨a3, c3, L3, rfl, by omega, ownsInts_le ho3 hs3⟩, CurO.new hc3⟩
end Go.Proofs.YtfdmcnnjifggnaaDoor

namespace Go.Proofs.YtfdmcnnjifggnaaDoor
open Go.RowKit

/-- The first j numbers are marked: k0, k0 + 1 .. -/
def marksP (k0 : Int) (L : List Int) (j : Nat) : List Int := ((List.range j).map fun (i : Nat) => k0 + (i : Int)) ++ L.drop j
/-- A marked list. -/
def marksL (k0 : Int) (n : Nat) : List Int := (List.range n).map fun (i : Nat) => k0 + (i : Int)
theorem marksP_length (k0 : Int) (L : List Int) (j : Nat) (hj : j ≤ L.length) : (marksP k0 L j).length = L.length := by
  simp [marksP]; omega
theorem marksP_all (k0 : Int) (L : List Int) : marksP k0 L L.length = marksL k0 L.length := by simp [marksP, marksL]
theorem marksP_succ (k0 : Int) (L : List Int) (j : Nat) (hj : j < L.length) : (marksP k0 L j).set j (k0 + (j : Int)) = marksP k0 L (j + 1) := by
  apply List.ext_getElem?
  intro i
  have h1 : ((List.range j).map fun (i : Nat) => k0 + (i : Int)).length = j := by simp
  have h2 : ((List.range (j + 1)).map fun (i : Nat) => k0 + (i : Int)).length = j + 1 := by simp
  simp only [marksP, List.getElem?_set, List.length_append, h1, List.length_drop]
  by_cases hij : j = i
  · subst hij
    rw [if_pos rfl, if_pos (by omega), List.getElem?_append_left (by omega)]
    simp
  · rw [if_neg hij]
    by_cases hlt : i < j
    · rw [List.getElem?_append_left (by omega), List.getElem?_append_left (by omega)]
      simp [hlt, show i < j + 1 by omega]
    · rw [List.getElem?_append_right (by omega), List.getElem?_append_right (by omega), h1, h2]
      simp only [List.getElem?_drop]
      congr 1
      omega
theorem marksL_getD (k0 : Int) (n j : Nat) (hj : j < n) : (marksL k0 n).getD j 0 = k0 + (j : Int) := by
  simp [marksL, hj]
theorem marksL_length (k0 : Int) (n : Nat) : (marksL k0 n).length = n := by simp [marksL]
/-- One number of an owned row is written. -/
theorem ownsInts_set {w : World} {B g n cap : Nat} {L : List Int} (h : ownsInts w B (.slice (some ⟨g, 0, none⟩) n cap) L) (hn : L.length = n) (j : Nat) (z : Int) :
    ownsInts (w.setCell ⟨g, j, none⟩ (.int .i64 z)) B (.slice (some ⟨g, 0, none⟩) n cap) (L.set j z) := by
  subst hn
  rcases h with h | ⟨h0, h1, a, h2⟩
  · have := (World.ownsRow.stored h j (.int .i64 z)).1
    refine .inl ?_
    simpa [List.map_set] using this
  · have : L = [] := List.eq_nil_of_length_eq_zero h0
    subst this
    exact .inr ⟨rfl, rfl, a, h2⟩
end Go.Proofs.YtfdmcnnjifggnaaDoor
