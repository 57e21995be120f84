/- The order of Slots, sorted lists of them; sorting by insertion. -/
import Derived.Test.YtjcbffkdemadnaaRows
namespace Go.Proofs.Ytjcbffkdemadnaa

def ltS (x y : Int × Int) : Bool := decide (x.1 < y.1) || (decide (x.1 = y.1) && decide (x.2 < y.2))
theorem ltS_iff {x y : Int × Int} : ltS x y = true ↔ x.1 < y.1 ∨ (x.1 = y.1 ∧ x.2 < y.2) := by simp [ltS]
/-- The Slots, sorted. -/
def sortS (l : List (Int × Int)) : List (Int × Int) := l.mergeSort fun x y => !ltS y x
theorem sortS_length (l : List (Int × Int)) : (sortS l).length = l.length := List.length_mergeSort l
theorem sortS_perm (l : List (Int × Int)) : (sortS l).Perm l := List.mergeSort_perm _ _
theorem ltS_no {x y : Int × Int} : ltS x y = false ↔ ¬ (x.1 < y.1 ∨ (x.1 = y.1 ∧ x.2 < y.2)) := by rw [Bool.eq_false_iff, ne_eq, ltS_iff]
/-- How many Slots a Slot is laid behind. -/
def posS (x : Int × Int) : List (Int × Int) → Nat
  | [] => 0
  | y :: r => if ltS x y = true then 0 else posS x r + 1
theorem posS_le (x : Int × Int) (l : List (Int × Int)) : posS x l ≤ l.length := by
  induction l with
  | nil => exact Nat.le_refl _
  | cons y r ih => unfold posS; split <;> simp <;> omega
theorem posS_before (x : Int × Int) (l : List (Int × Int)) : ∀ q, q < posS x l → ltS x (l.getD q (0, 0)) = false := by
  induction l with
  | nil => intro q hq; simp [posS] at hq
  | cons y r ih =>
    intro q hq
    unfold posS at hq
    split at hq
    · omega
    · rename_i h
      cases q with
      | zero => simpa using h
      | succ q => simpa using ih q (by omega)
theorem posS_at (x : Int × Int) (l : List (Int × Int)) (h : posS x l < l.length) : ltS x (l.getD (posS x l) (0, 0)) = true := by
  induction l with
  | nil => simp at h
  | cons y r ih =>
    by_cases h2 : ltS x y = true
    · have e : posS x (y :: r) = 0 := by simp [posS, h2]
      rw [e]
      simpa using h2
    · have e : posS x (y :: r) = posS x r + 1 := by simp [posS, h2]
      rw [e] at h ⊢
      simpa using ih (by simpa using h)
/-- A Slot is laid in. -/
def insS (x : Int × Int) (l : List (Int × Int)) : List (Int × Int) := l.take (posS x l) ++ x :: l.drop (posS x l)
theorem insS_cons (x y : Int × Int) (r : List (Int × Int)) : insS x (y :: r) = if ltS x y = true then x :: y :: r else y :: insS x r := by
  unfold insS
  by_cases h : ltS x y = true
  · simp [posS, h]
  · simp [posS, h]
theorem insS_length (x : Int × Int) (l : List (Int × Int)) : (insS x l).length = l.length + 1 := by
  have := posS_le x l
  unfold insS
  simp
  omega
theorem insS_perm (x : Int × Int) (l : List (Int × Int)) : (insS x l).Perm (x :: l) := by
  unfold insS
  refine List.perm_middle.trans ?_
  rw [List.take_append_drop]
theorem insS_sorted (x : Int × Int) (l : List (Int × Int)) (h : l.Pairwise fun a b => ltS b a = false) : (insS x l).Pairwise fun a b => ltS b a = false := by
  induction l with
  | nil => simp [insS]
  | cons y r ih =>
    rw [insS_cons]
    rw [List.pairwise_cons] at h
    split
    · rename_i h2
      rw [List.pairwise_cons, List.pairwise_cons]
      refine ⟨fun z hz => ?_, h⟩
      rcases List.mem_cons.1 hz with rfl | hz
      · rw [ltS_no]; rw [ltS_iff] at h2; omega
      · have h3 := h.1 z hz
        rw [ltS_no] at h3 ⊢; rw [ltS_iff] at h2; omega
    · rename_i h2
      rw [List.pairwise_cons]
      refine ⟨fun z hz => ?_, ih h.2⟩
      rcases List.mem_cons.1 ((insS_perm x r).subset hz) with rfl | hz
      · simpa using h2
      · exact h.1 z hz
/-- What is sorted behind j rounds. -/
def insL (l : List (Int × Int)) (j : Nat) : List (Int × Int) := (l.take j).foldl (fun s x => insS x s) []
theorem insL_zero (l : List (Int × Int)) : insL l 0 = [] := by simp [insL]
theorem insL_succ (l : List (Int × Int)) (j : Nat) (hj : j < l.length) : insL l (j + 1) = insS (l.getD j (0, 0)) (insL l j) := by
  unfold insL
  rw [List.take_add_one, List.getElem?_eq_getElem hj, List.foldl_append]
  simp [hj]
theorem insL_length (l : List (Int × Int)) : ∀ j, j ≤ l.length → (insL l j).length = j := by
  intro j
  induction j with
  | zero => intro _; simp [insL]
  | succ j ih => intro hj; rw [insL_succ l j (by omega), insS_length, ih (by omega)]
theorem insF (l : List (Int × Int)) : ∀ s : List (Int × Int), s.Pairwise (fun a b => ltS b a = false) → (l.foldl (fun s x => insS x s) s).Pairwise (fun a b => ltS b a = false) ∧ (l.foldl (fun s x => insS x s) s).Perm (s ++ l) := by
  induction l with
  | nil => intro s h; simpa using h
  | cons x l ih =>
    intro s h
    obtain ⟨h1, h2⟩ := ih _ (insS_sorted x s h)
    refine ⟨h1, h2.trans (((insS_perm x s).append_right l).trans ?_)⟩
    exact List.perm_middle.symm
theorem insL_all (l : List (Int × Int)) : insL l l.length = sortS l := by
  unfold insL
  rw [List.take_length]
  obtain ⟨h1, h2⟩ := insF l [] List.Pairwise.nil
  have h3 : (sortS l).Pairwise fun a b => ltS b a = false := by
    have h := List.pairwise_mergeSort (le := fun x y => !ltS y x) (fun a b c h1 h2 => by simp only [Bool.not_eq_true', ltS_no] at *; omega) (fun a b => by
      rw [Bool.or_eq_true]
      simp only [Bool.not_eq_true', ltS_no]
      omega) l
    simpa [sortS] using h
  refine List.Perm.eq_of_pairwise (le := fun a b => ltS b a = false) (fun a b _ _ h1 h2 => ?_) h1 h3 ?_
  · rw [ltS_no] at h1 h2
    exact Prod.ext (by omega) (by omega)
  · rw [List.nil_append] at h2
    exact h2.trans (sortS_perm l).symm
end Go.Proofs.Ytjcbffkdemadnaa
