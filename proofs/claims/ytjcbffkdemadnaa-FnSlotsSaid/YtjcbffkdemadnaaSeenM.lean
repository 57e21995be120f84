/- What is seen of a frame, which Slots are vain, and what is left without them: plain. -/
import Derived.Test.YtjcbffkdemadnaaSlot
namespace Go.Proofs.Ytjcbffkdemadnaa
open Go.RowKit

/-- The bars that light in cell y. -/
def orStep (y : Nat) (a : Nat) (s : Int × Int) : Nat := if s.1.toNat / 2 ^ y % 2 = 1 then a ||| s.2.toNat else a
def orB (y : Nat) (l : List (Int × Int)) : Nat := l.foldl (orStep y) 0
def seenL (k : Nat) (l : List (Int × Int)) : List Int := (List.range k).map fun y => (orB y l : Int)
/-- The row when j Slots are through, and x cells of the next one. -/
def seenP (k : Nat) (l : List (Int × Int)) (j x : Nat) : List Int := (List.range k).map fun y => if y < x then (orB y (l.take (j + 1)) : Int) else (orB y (l.take j) : Int)
theorem seenL_length (k : Nat) (l : List (Int × Int)) : (seenL k l).length = k := by simp [seenL]
theorem seenP_length (k : Nat) (l : List (Int × Int)) (j x : Nat) : (seenP k l j x).length = k := by simp [seenP]
theorem seenP_first (k : Nat) (l : List (Int × Int)) : seenP k l 0 0 = List.replicate k 0 := by
  unfold seenP
  rw [List.eq_replicate_iff]
  refine ⟨by simp, fun b hb => ?_⟩
  obtain ⟨y, _, rfl⟩ := List.mem_map.1 hb
  simp [orB]
theorem seenP_last (k : Nat) (l : List (Int × Int)) : seenP k l l.length 0 = seenL k l := by simp [seenP, seenL]
theorem seenP_turn (k : Nat) (l : List (Int × Int)) (j : Nat) : seenP k l j k = seenP k l (j + 1) 0 := by
  unfold seenP
  apply List.map_congr_left
  intro y hy
  rw [if_pos (List.mem_range.1 hy), if_neg (by omega)]
theorem seenP_getD (k : Nat) (l : List (Int × Int)) (j x : Nat) (hx : x < k) : (seenP k l j x).getD x 0 = (orB x (l.take j) : Int) := by simp [seenP, hx]
theorem seenP_set (k : Nat) (l : List (Int × Int)) (j x : Nat) (hx : x < k) : (seenP k l j x).set x (orB x (l.take (j + 1)) : Int) = seenP k l j (x + 1) := by
  unfold seenP
  apply List.ext_getElem?
  intro i
  rw [List.getElem?_set]
  by_cases h : x = i
  · subst h
    simp [hx]
  · rw [if_neg h]
    by_cases hi : i < k
    · simp [hi]
      by_cases h2 : i < x
      · rw [if_pos h2, if_pos (by omega)]
      · rw [if_neg h2, if_neg (by omega)]
    · simp [hi]
theorem orB_succ (y : Nat) (l : List (Int × Int)) (j : Nat) (hj : j < l.length) : orB y (l.take (j + 1)) = orStep y (orB y (l.take j)) (l.getD j (0, 0)) := by
  unfold orB
  rw [List.take_add_one, List.getElem?_eq_getElem hj, List.foldl_append]
  simp [hj]
theorem seenP_same (k : Nat) (l : List (Int × Int)) (j x : Nat) (hj : j < l.length) (h : ¬ (l.getD j (0, 0)).1.toNat / 2 ^ x % 2 = 1) : seenP k l j (x + 1) = seenP k l j x := by
  unfold seenP
  apply List.map_congr_left
  intro y hy
  by_cases h2 : y < x
  · rw [if_pos (by omega), if_pos h2]
  · by_cases h3 : y = x
    · subst h3
      rw [if_pos (by omega), if_neg h2, orB_succ y l j hj, orStep, if_neg h]
    · rw [if_neg (by omega), if_neg h2]
theorem orF_lt (y : Nat) (l : List (Int × Int)) (h : ∀ s ∈ l, s.2.toNat < 128) : ∀ a, a < 128 → l.foldl (orStep y) a < 128 := by
  induction l with
  | nil => intro a ha; exact ha
  | cons s l ih =>
    intro a ha
    rw [List.foldl_cons]
    refine ih (fun t ht => h t (List.mem_cons_of_mem _ ht)) _ ?_
    unfold orStep
    split
    · exact Nat.or_lt_two_pow (n := 7) ha (h s (by simp))
    · exact ha
theorem orB_lt (y : Nat) (l : List (Int × Int)) (h : ∀ s ∈ l, s.2.toNat < 128) : orB y l < 128 := orF_lt y l h 0 (by decide)
/-- A bar lights in a cell. -/
def lit1 (y b : Nat) (s : Int × Int) : Bool := decide (s.1.toNat / 2 ^ y % 2 = 1) && s.2.toNat.testBit b
theorem orF_test (y b : Nat) (l : List (Int × Int)) : ∀ a, (l.foldl (orStep y) a).testBit b = (a.testBit b || l.any (lit1 y b)) := by
  induction l with
  | nil => intro a; simp
  | cons s l ih =>
    intro a
    rw [List.foldl_cons, ih, List.any_cons, ← Bool.or_assoc]
    congr 1
    unfold orStep lit1
    split
    · rename_i h; simp [h]
    · rename_i h; simp [h]
theorem orB_test (y b : Nat) (l : List (Int × Int)) : (orB y l).testBit b = l.any (lit1 y b) := by
  unfold orB
  rw [orF_test]
  simp
theorem seenL_eq (k : Nat) (l m : List (Int × Int)) : seenL k l = seenL k m ↔ ∀ y, y < k → ∀ b, l.any (lit1 y b) = m.any (lit1 y b) := by
  constructor
  · intro h y hy b
    have h1 : (seenL k l).getD y 0 = (seenL k m).getD y 0 := by rw [h]
    simp only [seenL, List.getD_eq_getElem?_getD, List.getElem?_map, List.getElem?_range hy, Option.map_some, Option.getD_some] at h1
    rw [← orB_test, ← orB_test, Int.ofNat_inj.1 h1]
  · intro h
    unfold seenL
    apply List.map_congr_left
    intro y hy
    congr 1
    apply Nat.eq_of_testBit_eq
    intro b
    rw [orB_test, orB_test]
    exact h y (List.mem_range.1 hy) b
theorem seenL_perm (k : Nat) {l m : List (Int × Int)} (h : l.Perm m) : seenL k l = seenL k m := by
  rw [seenL_eq]
  intro y _ b
  rw [Bool.eq_iff_iff, List.any_eq_true, List.any_eq_true]
  constructor
  · rintro ⟨x, hx, hl⟩; exact ⟨x, h.subset hx, hl⟩
  · rintro ⟨x, hx, hl⟩; exact ⟨x, h.symm.subset hx, hl⟩
/-- The Slot at a place is vain; the places of those that are. -/
def vainI (k : Nat) (l : List (Int × Int)) (i : Nat) : Bool := decide (seenL k (l.eraseIdx i) = seenL k l)
def vainP (k : Nat) (l : List (Int × Int)) (i : Nat) : List Nat := (List.range i).filter (vainI k l)
def vainL (k : Nat) (l : List (Int × Int)) : List Nat := vainP k l l.length
theorem vainP_zero (k : Nat) (l : List (Int × Int)) : vainP k l 0 = [] := rfl
theorem vainP_succ (k : Nat) (l : List (Int × Int)) (i : Nat) : vainP k l (i + 1) = if vainI k l i = true then vainP k l i ++ [i] else vainP k l i := by
  simp only [vainP, List.range_succ, List.filter_append]
  split <;> simp_all [List.filter_cons]
theorem vainP_le (k : Nat) (l : List (Int × Int)) (i : Nat) : (vainP k l i).length ≤ i := Nat.le_trans (List.length_filter_le _ _) (by simp)
theorem vainL_lt (k : Nat) (l : List (Int × Int)) (i : Nat) (r : List Nat) (h : vainL k l = i :: r) : i < l.length ∧ vainI k l i = true := by
  have : i ∈ vainL k l := by rw [h]; simp
  unfold vainL vainP at this
  rw [List.mem_filter, List.mem_range] at this
  exact this
theorem filter_first (p : Nat → Bool) (i : Nat) (hb : ∀ j, j < i → p j = false) (hi : p i = true) : ∀ d, ∃ r, (List.range (i + 1 + d)).filter p = i :: r := by
  intro d
  induction d with
  | zero =>
    refine ⟨[], ?_⟩
    rw [Nat.add_zero, List.range_succ, List.filter_append]
    have : (List.range i).filter p = [] := by
      rw [List.filter_eq_nil_iff]
      intro j hj
      rw [hb j (List.mem_range.1 hj)]
      decide
    rw [this]
    simp [hi]
  | succ d ih =>
    obtain ⟨r, hr⟩ := ih
    rw [← Nat.add_assoc, List.range_succ, List.filter_append, hr]
    exact ⟨_, rfl⟩
theorem vainL_first (k : Nat) (l : List (Int × Int)) (i : Nat) (hl : i < l.length) (hb : ∀ j, j < i → vainI k l j = false) (hi : vainI k l i = true) : ∃ r, vainL k l = i :: r := by
  obtain ⟨r, hr⟩ := filter_first (vainI k l) i hb hi (l.length - (i + 1))
  rw [show i + 1 + (l.length - (i + 1)) = l.length by omega] at hr
  exact ⟨r, hr⟩
theorem vainL_none (k : Nat) (l : List (Int × Int)) (hb : ∀ j, j < l.length → vainI k l j = false) : vainL k l = [] := by
  unfold vainL vainP
  rw [List.filter_eq_nil_iff]
  intro j hj
  rw [hb j (List.mem_range.1 hj)]
  decide
/-- Vain Slots are left out, the first one first. -/
def dropN (k : Nat) : Nat → List (Int × Int) → List (Int × Int)
  | 0, l => l
  | f + 1, l => match vainL k l with
    | [] => l
    | i :: _ => dropN k f (l.eraseIdx i)
def dropV (k : Nat) (l : List (Int × Int)) : List (Int × Int) := dropN k l.length l
theorem dropV_done (k : Nat) (l : List (Int × Int)) (h : vainL k l = []) : dropV k l = l := by
  unfold dropV
  cases l.length with
  | zero => rfl
  | succ f => unfold dropN; rw [h]
theorem dropV_step (k : Nat) (l : List (Int × Int)) (i : Nat) (r : List Nat) (h : vainL k l = i :: r) : dropV k l = dropV k (l.eraseIdx i) := by
  have hi := (vainL_lt k l i r h).1
  obtain ⟨f, hf⟩ : ∃ f, l.length = f + 1 := ⟨l.length - 1, by omega⟩
  have hf2 : (l.eraseIdx i).length = f := by rw [List.length_eraseIdx, if_pos hi]; omega
  unfold dropV
  rw [hf, hf2]
  conv => lhs; unfold dropN
  rw [h]
theorem erase_swap (l : List (Int × Int)) (i j : Nat) (hj : j < i) : (l.eraseIdx i).eraseIdx j = (l.eraseIdx j).eraseIdx (i - 1) := by
  apply List.ext_getElem?
  intro n
  simp only [List.getElem?_eraseIdx]
  by_cases h1 : n < j
  · rw [if_pos h1, if_pos (by omega), if_pos (by omega), if_pos h1]
  · rw [if_neg h1]
    by_cases h2 : n + 1 < i
    · rw [if_pos h2, if_pos (by omega), if_neg h1]
    · rw [if_neg h2, if_neg (by omega), if_neg (by omega)]
theorem any_erase (p : Int × Int → Bool) (l : List (Int × Int)) (i : Nat) (h : (l.eraseIdx i).any p = true) : l.any p = true := by
  obtain ⟨x, hx, hp⟩ := List.any_eq_true.1 h
  exact List.any_eq_true.2 ⟨x, List.mem_of_mem_eraseIdx hx, hp⟩
/-- What is not vain stays so when a vain one behind it is left out. -/
theorem vain_stays (k : Nat) (l : List (Int × Int)) (i j : Nat) (hj : j < i) (hi : vainI k l i = true) (h : vainI k l j = false) : vainI k (l.eraseIdx i) j = false := by
  unfold vainI at *
  rw [decide_eq_true_eq, seenL_eq] at hi
  rw [decide_eq_false_iff_not, seenL_eq] at h ⊢
  intro hc
  apply h
  intro y hy b
  rw [Bool.eq_iff_iff]
  constructor
  · exact any_erase _ _ _
  · intro h1
    have h2 := hc y hy b
    rw [hi y hy b, h1, erase_swap l i j hj] at h2
    exact any_erase _ _ _ h2
theorem dropV_all (k : Nat) : ∀ n (l : List (Int × Int)), l.length = n → seenL k (dropV k l) = seenL k l ∧ vainL k (dropV k l) = [] ∧ (dropV k l).length ≤ l.length ∧ (vainL k l ≠ [] → (dropV k l).length < l.length) ∧ ∀ x ∈ dropV k l, x ∈ l := by
  intro n
  induction n using Nat.strongRecOn with
  | ind n ih =>
    intro l hl
    cases h : vainL k l with
    | nil =>
      rw [dropV_done k l h]
      exact ⟨rfl, h, Nat.le_refl _, fun h2 => absurd rfl h2, fun x hx => hx⟩
    | cons i r =>
      obtain ⟨hi, hv⟩ := vainL_lt k l i r h
      have hlen : (l.eraseIdx i).length = l.length - 1 := by rw [List.length_eraseIdx, if_pos hi]
      obtain ⟨h1, h2, h3, _, h5⟩ := ih (l.length - 1) (by omega) (l.eraseIdx i) hlen
      rw [dropV_step k l i r h]
      refine ⟨h1.trans ?_, h2, by omega, fun _ => by omega, fun x hx => List.mem_of_mem_eraseIdx (h5 x hx)⟩
      unfold vainI at hv
      exact of_decide_eq_true hv
end Go.Proofs.Ytjcbffkdemadnaa
