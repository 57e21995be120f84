/- The game that is played out at a row: plain lemmas, and append of a whole slice. -/
import Derived.Test.YtincekchaolebaaMoves
import Derived.Lib.Hide
namespace Go.Proofs.Ytincekchaolebaa
open Go.RowKit

theorem movF_head (R L : List Int) (wins : Bool) : ∀ m, movN R L wins m ≠ 0 → ∃ i b, b < 7 ∧ i * 7 + b < m ∧ movQ R L wins i b = true ∧ (movF R L wins m).getD 0 0 = (i : Int) ∧ (movF R L wins m).getD 1 0 = (b : Int) := by
  intro m
  induction m with
  | zero => intro h; exact absurd rfl h
  | succ m ih =>
    intro h
    by_cases h0 : movN R L wins m = 0
    · have hF : movF R L wins m = [] := List.eq_nil_of_length_eq_zero (by rw [movF_len, h0])
      unfold movN at h
      by_cases hq : movQ R L wins (m / 7) (m % 7) = true
      · refine ⟨m / 7, m % 7, Nat.mod_lt _ (by decide), by omega, hq, ?_, ?_⟩
        · unfold movF; rw [if_pos hq, hF]; rfl
        · unfold movF; rw [if_pos hq, hF]; rfl
      · rw [if_neg hq] at h; exact absurd h0 h
    · obtain ⟨i, b, hb, hlt, hq, e0, e1⟩ := ih h0
      have hl := movF_len R L wins m
      refine ⟨i, b, hb, by omega, hq, ?_, ?_⟩
      · unfold movF
        split
        · rw [List.getD_eq_getElem?_getD, List.getElem?_append_left (by omega), ← List.getD_eq_getElem?_getD]; exact e0
        · exact e0
      · unfold movF
        split
        · rw [List.getD_eq_getElem?_getD, List.getElem?_append_left (by omega), ← List.getD_eq_getElem?_getD]; exact e1
        · exact e1
/-- The row is of cells on the way. -/
def rowOk (R L : List Int) : Prop := ∀ x ∈ R, inB 0 127 x = true ∧ wayB x L = true
def mus (R : List Int) : Nat := (R.map fun c => 127 - c.toNat).sum
theorem mus_le (R : List Int) : mus R ≤ 127 * R.length := by
  induction R with
  | nil => simp [mus]
  | cons a R ih =>
    simp only [mus, List.map_cons, List.sum_cons, List.length_cons] at ih ⊢
    omega
theorem mus_set : ∀ (R : List Int) (i : Nat) (X : Int), i < R.length → (R.getD i 0).toNat < X.toNat → X.toNat ≤ 127 → mus (R.set i X) < mus R
  | a :: R, 0, X, _, h2, h3 => by
    simp only [List.getD_cons_zero] at h2
    simp only [mus, List.set_cons_zero, List.map_cons, List.sum_cons]
    omega
  | a :: R, i + 1, X, h1, h2, h3 => by
    have ih := mus_set R i X (by simpa using h1) (by simpa using h2) h3
    simp only [mus, List.set_cons_succ, List.map_cons, List.sum_cons] at ih ⊢
    omega
/-- The moves of which the first one is made. -/
def pickN (R L : List Int) : Nat := if movN R L true (R.length * 7) = 0 then movN R L false (R.length * 7) else movN R L true (R.length * 7)
def pickF (R L : List Int) : List Int := if movN R L true (R.length * 7) = 0 then movF R L false (R.length * 7) else movF R L true (R.length * 7)
def nextR (R L : List Int) : List Int := R.set ((pickF R L).getD 0 0).toNat (((R.getD ((pickF R L).getD 0 0).toNat 0).toNat ||| 2 ^ ((pickF R L).getD 1 0).toNat : Nat) : Int)
/-- The moves that are made, in at most k rounds. -/
def playG (L : List Int) : Nat → List Int → List Int
  | 0, _ => []
  | k + 1, R => if pickN R L = 0 then [] else (pickF R L).getD 0 0 :: (pickF R L).getD 1 0 :: playG L k (nextR R L)
theorem playG_stop (L R : List Int) (k : Nat) (h : pickN R L = 0) : playG L k R = [] := by
  cases k with
  | zero => rfl
  | succ k => show (if pickN R L = 0 then _ else _) = _; rw [if_pos h]
theorem nextB_up {L : List Int} {c b : Nat} (h : nextB L c b = true) : c < c ||| 2 ^ b := by
  unfold nextB at h
  simp only [Bool.and_eq_true, bne_iff_ne, ne_eq] at h
  have : c ≤ c ||| 2 ^ b := Nat.left_le_or
  omega
theorem pick_facts {R L : List Int} (hR : rowOk R L) (h : pickN R L ≠ 0) : ∃ i b C, i < R.length ∧ b < 7 ∧ C < 128 ∧ R.getD i 0 = ((C : Nat) : Int) ∧ (pickF R L).getD 0 0 = ((i : Nat) : Int) ∧ (pickF R L).getD 1 0 = ((b : Nat) : Int) ∧ C ||| 2 ^ b < 128 ∧
    nextR R L = R.set i ((C ||| 2 ^ b : Nat) : Int) ∧ rowOk (nextR R L) L ∧ mus (nextR R L) < mus R ∧ (nextR R L).length = R.length := by
  have key : ∃ wins i b, b < 7 ∧ i * 7 + b < R.length * 7 ∧ movQ R L wins i b = true ∧ (pickF R L).getD 0 0 = (i : Int) ∧ (pickF R L).getD 1 0 = (b : Int) := by
    unfold pickN at h
    unfold pickF
    split at h
    · rename_i h0
      rw [if_pos h0]
      exact ⟨false, movF_head R L false _ h⟩
    · rename_i h0
      rw [if_neg h0]
      exact ⟨true, movF_head R L true _ h⟩
  obtain ⟨wins, i, b, hb, hlt, hq, e0, e1⟩ := key
  have hi : i < R.length := by omega
  have hm := hR _ (memGetD hi)
  have hc := hm.1
  rw [inB_iff] at hc
  obtain ⟨C, hC⟩ := Int.eq_ofNat_of_zero_le hc.1
  have hC2 : C < 128 := by omega
  have hnx : nextB L C b = true := by
    unfold movQ at hq
    simp only [Bool.and_eq_true] at hq
    have := hq.1
    rw [hC, Int.toNat_natCast] at this
    exact this
  have hl := lor_lt C b hC2 hb
  have hup := nextB_up hnx
  have hw := way_next hnx
  have en : nextR R L = R.set i ((C ||| 2 ^ b : Nat) : Int) := by
    unfold nextR
    rw [e0, e1, Int.toNat_natCast, Int.toNat_natCast, hC, Int.toNat_natCast]
  refine ⟨i, b, C, hi, hb, hC2, hC, e0, e1, hl, en, ?_, ?_, ?_⟩
  · rw [en]
    intro x hx
    rcases List.mem_or_eq_of_mem_set hx with h | rfl
    · exact hR x h
    · exact ⟨by rw [inB_iff]; omega, hw⟩
  · rw [en]
    exact mus_set R i _ hi (by rw [hC]; omega) (by omega)
  · rw [en, List.length_set]
end Go.Proofs.Ytincekchaolebaa
