/- Sequences of Slots and the first one with the fewest switches: plain. -/
import Derived.Test.YtjcbffkdemadnaaSlot
import Derived.Test.YtjcbffkdemadnaaCount
namespace Go.Proofs.Ytjcbffkdemadnaa
open Go.RowKit

/-- How many lines change from one Slot to another; over the first j Slots of a frame; over all. -/
def sw1 (a b : Int × Int) : Nat := cnt (a.1.toNat ^^^ b.1.toNat) + cnt (a.2.toNat ^^^ b.2.toNat)
def swP (l : List (Int × Int)) : Nat → Nat
  | 0 => 0
  | k + 1 => swP l k + sw1 (l.getD k (0, 0)) (l.getD ((k + 1) % l.length) (0, 0))
def swF (l : List (Int × Int)) : Nat := swP l l.length
theorem swP_le (l : List (Int × Int)) (k : Nat) : swP l k ≤ 14 * k := by
  induction k with
  | zero => exact Nat.le_refl _
  | succ k ih =>
    unfold swP sw1
    have := cnt_le ((l.getD k (0, 0)).1.toNat ^^^ (l.getD ((k + 1) % l.length) (0, 0)).1.toNat)
    have := cnt_le ((l.getD k (0, 0)).2.toNat ^^^ (l.getD ((k + 1) % l.length) (0, 0)).2.toNat)
    omega
/-- All sequences. -/
def seqsN : Nat → List (Int × Int) → List (List (Int × Int))
  | 0, _ => [[]]
  | n + 1, l => (List.range (n + 1)).flatMap fun i => (seqsN n (l.eraseIdx i)).map (l.getD i (0, 0) :: ·)
def seqS (l : List (Int × Int)) : List (List (Int × Int)) := seqsN l.length l
/-- The sequences that begin with one of the first i Slots. -/
def seqP (l : List (Int × Int)) (i : Nat) : List (List (Int × Int)) := (List.range i).flatMap fun j => (seqS (l.eraseIdx j)).map (l.getD j (0, 0) :: ·)
theorem seqP_zero (l : List (Int × Int)) : seqP l 0 = [] := rfl
theorem seqP_succ (l : List (Int × Int)) (i : Nat) : seqP l (i + 1) = seqP l i ++ (seqS (l.eraseIdx i)).map (l.getD i (0, 0) :: ·) := by simp [seqP, List.range_succ]
theorem seqP_all (l : List (Int × Int)) (h : 0 < l.length) : seqP l l.length = seqS l := by
  obtain ⟨n, hn⟩ : ∃ n, l.length = n + 1 := ⟨l.length - 1, by omega⟩
  unfold seqS seqP
  rw [hn]
  unfold seqsN
  rw [List.flatMap_def, List.flatMap_def]
  congr 1
  apply List.map_congr_left
  intro j hj
  have hj' := List.mem_range.1 hj
  unfold seqS
  rw [List.length_eraseIdx, if_pos (by omega), hn]
  rfl
theorem seqS_nil : seqS [] = [[]] := rfl
def fact : Nat → Nat
  | 0 => 1
  | n + 1 => (n + 1) * fact n
theorem seqS_count (n : Nat) : ∀ l : List (Int × Int), l.length = n → (seqS l).length = fact n := by
  induction n with
  | zero => intro l hl; rw [List.eq_nil_of_length_eq_zero hl]; rfl
  | succ n ih =>
    intro l hl
    have hP : ∀ i, i ≤ l.length → (seqP l i).length = i * fact n := by
      intro i
      induction i with
      | zero => intro _; simp [seqP]
      | succ i ih2 =>
        intro hi
        rw [seqP_succ, List.length_append, ih2 (by omega), List.length_map, ih _ (by rw [List.length_eraseIdx, if_pos (by omega)]; omega)]
        rw [Nat.succ_mul]
    rw [← seqP_all l (by omega), hP _ (Nat.le_refl _), hl]
    rfl
theorem erase_perm (l : List (Int × Int)) : ∀ (j : Nat) (hj : j < l.length), (l[j] :: l.eraseIdx j).Perm l := by
  induction l with
  | nil => intro j hj; simp at hj
  | cons x l ih =>
    intro j hj
    cases j with
    | zero => simp
    | succ j =>
      have := ih j (by simpa using hj)
      simp only [List.getElem_cons_succ, List.eraseIdx_cons_succ]
      exact (List.Perm.swap _ _ _).trans (List.Perm.cons x this)
theorem seqS_perm (n : Nat) : ∀ l : List (Int × Int), l.length = n → ∀ s, s ∈ seqS l ↔ s.Perm l := by
  induction n with
  | zero =>
    intro l hl s
    rw [List.eq_nil_of_length_eq_zero hl, seqS_nil]
    simp
  | succ n ih =>
    intro l hl s
    rw [← seqP_all l (by omega)]
    unfold seqP
    rw [List.mem_flatMap]
    constructor
    · rintro ⟨j, hj, hs⟩
      have hj' := List.mem_range.1 hj
      obtain ⟨t, ht, rfl⟩ := List.mem_map.1 hs
      have h1 := (ih _ (by rw [List.length_eraseIdx, if_pos hj']; omega) t).1 ht
      have h2 : l.getD j (0, 0) = l[j] := by rw [List.getD_eq_getElem?_getD, List.getElem?_eq_getElem hj']; rfl
      rw [h2]
      exact (List.Perm.cons _ h1).trans (erase_perm l j hj')
    · intro hp
      cases s with
      | nil => have := hp.length_eq; simp at this; omega
      | cons x t =>
        have hx : x ∈ l := hp.subset (by simp)
        obtain ⟨j, hj, rfl⟩ := List.getElem_of_mem hx
        refine ⟨j, List.mem_range.2 hj, List.mem_map.2 ⟨t, ?_, ?_⟩⟩
        · refine (ih _ (by rw [List.length_eraseIdx, if_pos hj]; omega) t).2 ?_
          exact (List.perm_cons _).1 (hp.trans (erase_perm l j hj).symm)
        · rw [List.getD_eq_getElem?_getD, List.getElem?_eq_getElem hj]; rfl
theorem erase_same (l : List (Int × Int)) (i : Nat) (hi : i + 1 < l.length) (h : l.getD (i + 1) (0, 0) = l.getD i (0, 0)) : l.eraseIdx (i + 1) = l.eraseIdx i := by
  have e : ∀ j (hj : j < l.length), l.getD j (0, 0) = l[j] := fun j hj => by rw [List.getD_eq_getElem?_getD, List.getElem?_eq_getElem hj]; rfl
  rw [e _ hi, e i (by omega)] at h
  apply List.ext_getElem?
  intro k
  rw [List.getElem?_eraseIdx, List.getElem?_eraseIdx]
  by_cases h1 : k < i
  · rw [if_pos (by omega), if_pos h1]
  · by_cases h2 : k = i
    · subst h2
      rw [if_pos (by omega), if_neg (by omega), List.getElem?_eq_getElem (by omega), List.getElem?_eq_getElem hi, h]
    · rw [if_neg (by omega), if_neg (by omega)]
/-- The first sequence with the fewest switches so far, and another one. -/
def updS (st : Option (List (Int × Int))) (s : List (Int × Int)) : Option (List (Int × Int)) := match st with
  | none => some s
  | some b => if swF s < swF b then some s else some b
/-- What is held of the fewest switches: -1 at first. -/
def leastO : Option (List (Int × Int)) → Int
  | none => -1
  | some b => (swF b : Int)
def bestO : Option (List (Int × Int)) → List (Int × Int)
  | none => []
  | some b => b
theorem upd_keep (L : List (List (Int × Int))) (b : List (Int × Int)) (h : ∀ s ∈ L, swF b ≤ swF s) : L.foldl updS (some b) = some b := by
  induction L with
  | nil => rfl
  | cons s L ih =>
    rw [List.foldl_cons]
    have hs : ¬ swF s < swF b := by have := h s (by simp); omega
    have : updS (some b) s = some b := if_neg hs
    rw [this]
    exact ih fun t ht => h t (List.mem_cons_of_mem _ ht)
theorem upd_least (L : List (List (Int × Int))) : ∀ st, (st = none ∧ L = [] ∧ L.foldl updS st = none) ∨ ∃ b, L.foldl updS st = some b ∧ (∀ s ∈ L, swF b ≤ swF s) ∧ (∀ c, st = some c → swF b ≤ swF c) ∧ (b ∈ L ∨ st = some b) := by
  induction L with
  | nil =>
    intro st
    cases st with
    | none => exact .inl ⟨rfl, rfl, rfl⟩
    | some c => exact .inr ⟨c, rfl, by simp, by rintro d ⟨⟩; exact Nat.le_refl _, .inr rfl⟩
  | cons s L ih =>
    intro st
    right
    rw [List.foldl_cons]
    rcases ih (updS st s) with ⟨h1, _⟩ | ⟨b, h1, h2, h3, h4⟩
    · exfalso; unfold updS at h1; split at h1
      · cases h1
      · split at h1 <;> cases h1
    · refine ⟨b, h1, ?_, ?_, ?_⟩
      · intro t ht
        rcases List.mem_cons.1 ht with rfl | ht
        · cases hst : st with
          | none => exact h3 t (by rw [hst]; rfl)
          | some c =>
            rw [hst] at h3
            unfold updS at h3
            simp only at h3
            split at h3
            · exact h3 t rfl
            · have := h3 c rfl; omega
        · exact h2 t ht
      · rintro c rfl
        unfold updS at h3
        simp only at h3
        split at h3
        · have := h3 s rfl; omega
        · exact h3 c rfl
      · rcases h4 with h4 | h4
        · exact .inl (List.mem_cons_of_mem _ h4)
        · cases st with
          | none =>
            unfold updS at h4
            simp only [Option.some.injEq] at h4
            exact .inl (by rw [h4]; simp)
          | some c =>
            unfold updS at h4
            simp only at h4
            split at h4
            · simp only [Option.some.injEq] at h4
              exact .inl (by rw [h4]; simp)
            · exact .inr h4
/-- Sequences that were there before turn nothing. -/
theorem upd_dup (A C : List (List (Int × Int))) (st : Option (List (Int × Int))) (h : ∀ s ∈ C, s ∈ A) : (A ++ C).foldl updS st = A.foldl updS st := by
  rw [List.foldl_append]
  rcases upd_least A st with ⟨_, h2, _⟩ | ⟨b, h1, h2, _⟩
  · subst h2
    have : C = [] := List.eq_nil_iff_forall_not_mem.2 fun s hs => by have := h s hs; simp at this
    subst this
    rfl
  · rw [h1]
    exact upd_keep C b fun s hs => h2 s (h s hs)
/-- The state behind i rounds of the program's loop. -/
def stP (st : Option (List (Int × Int))) (part rest : List (Int × Int)) (i : Nat) : Option (List (Int × Int)) := ((seqP rest i).map (part ++ ·)).foldl updS st
def stF (st : Option (List (Int × Int))) (part rest : List (Int × Int)) : Option (List (Int × Int)) := ((seqS rest).map (part ++ ·)).foldl updS st
theorem stP_zero (st : Option (List (Int × Int))) (part rest : List (Int × Int)) : stP st part rest 0 = st := rfl
theorem stP_all (st : Option (List (Int × Int))) (part rest : List (Int × Int)) (h : 0 < rest.length) : stP st part rest rest.length = stF st part rest := by unfold stP stF; rw [seqP_all rest h]
theorem stF_nil (st : Option (List (Int × Int))) (part : List (Int × Int)) : stF st part [] = updS st part := by simp [stF, seqS_nil]
theorem stP_succ (st : Option (List (Int × Int))) (part rest : List (Int × Int)) (i : Nat) : stP st part rest (i + 1) = stF (stP st part rest i) (part ++ [rest.getD i (0, 0)]) (rest.eraseIdx i) := by
  unfold stP stF
  rw [seqP_succ, List.map_append, List.foldl_append, List.map_map]
  congr 1
  apply List.map_congr_left
  intro s _
  simp
theorem stP_dup (st : Option (List (Int × Int))) (part rest : List (Int × Int)) (i : Nat) (hi : i + 1 < rest.length) (h : rest.getD (i + 1) (0, 0) = rest.getD i (0, 0)) : stP st part rest (i + 2) = stP st part rest (i + 1) := by
  unfold stP
  rw [seqP_succ rest (i + 1), List.map_append]
  refine upd_dup _ _ _ fun s hs => ?_
  obtain ⟨t, ht, rfl⟩ := List.mem_map.1 hs
  refine List.mem_map.2 ⟨t, ?_, rfl⟩
  rw [seqP_succ, ← erase_same rest i hi h, ← h]
  exact List.mem_append_right _ ht
end Go.Proofs.Ytjcbffkdemadnaa
