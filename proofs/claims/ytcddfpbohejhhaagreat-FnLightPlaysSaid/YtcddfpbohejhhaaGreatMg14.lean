/- Joined texts: NimM, Game, Clone. -/
import Derived.Test.YtcddfpbohejhhaaGreatMg13
import Derived.Test.YtcddfpbohejhhaaGreatMg12
import Derived.Lib.Hide
import Derived.Test.YtcddfpbohejhhaaGreatMg01
import Derived.ArgAppend
import Derived.Lib.SliceRun
import Derived.WalkKit
import Derived.Deep.DeepMust
namespace Go.Proofs.YtcddfpbohejhhaaGreat
open Go.RowKit

theorem mexF_spec (L : List Int) : ∀ t k, k ≤ mexF L t k ∧ (∀ i : Nat, k ≤ i → i < mexF L t k → (i : Int) ∈ L) ∧ (mexF L t k = k + t ∨ ((mexF L t k : Nat) : Int) ∉ L) := by
  intro t
  induction t with
  | zero => intro k; exact ⟨Nat.le_refl _, fun i h1 h2 => by unfold mexF at h2; omega, .inl rfl⟩
  | succ t ih =>
    intro k
    unfold mexF
    by_cases h : L.contains (k : Int) = true
    · rw [if_pos h]
      obtain ⟨h1, h2, h3⟩ := ih (k + 1)
      refine ⟨by omega, fun i hi1 hi2 => ?_, ?_⟩
      · by_cases hik : i = k
        · subst hik; simpa using h
        · exact h2 i (by omega) hi2
      · rcases h3 with h3 | h3
        · left; omega
        · exact .inr h3
    · rw [if_neg h]
      exact ⟨Nat.le_refl _, fun i h1 h2 => by omega, .inr (by simpa using h)⟩
theorem mexN_below (L : List Int) (j : Nat) (h : j < mexN L) : (j : Int) ∈ L := (mexF_spec L (L.length + 1) 0).2.1 j (Nat.zero_le _) h
theorem mexN_out (L : List Int) : ((mexN L : Nat) : Int) ∉ L := by
  obtain ⟨_, h2, h3⟩ := mexF_spec L (L.length + 1) 0
  rcases h3 with h3 | h3
  · have := pigeon (L.length + 1) L (fun i hi => h2 i (Nat.zero_le _) (by omega))
    omega
  · exact h3
theorem numC_mex (L : List Int) (c : Nat) (hc : c < 128) : numC L (c : Int) = mexN ((litL L c).map fun (d : Nat) => ((numC L (d : Int) : Nat) : Int)) := by
  unfold numC
  rw [Int.toNat_natCast, valC_eq L knF c hc]
  show mexN (numsK _) = _
  unfold numsK
  rw [List.map_map]
  rfl
theorem litL_iff (L : List Int) (c d : Nat) : d ∈ litL L c ↔ ∃ b, b < 7 ∧ nextB L c b = true ∧ d = c ||| 2 ^ b := by
  unfold litL litP
  simp only [List.mem_map, List.mem_filter, List.mem_range]
  constructor
  · rintro ⟨b, ⟨h1, h2⟩, h3⟩; exact ⟨b, h1, h2, h3.symm⟩
  · rintro ⟨b, h1, h2, h3⟩; exact ⟨b, ⟨h1, h2⟩, h3.symm⟩
theorem num_next (L : List Int) (c b : Nat) (hc : c < 128) (hb : b < 7) (h : nextB L c b = true) : numC L ((c ||| 2 ^ b : Nat) : Int) ≠ numC L (c : Int) := by
  intro he
  have h1 := mexN_out ((litL L c).map fun (d : Nat) => ((numC L (d : Int) : Nat) : Int))
  rw [← numC_mex L c hc] at h1
  exact h1 (List.mem_map.2 ⟨c ||| 2 ^ b, (litL_iff L c _).2 ⟨b, hb, h, rfl⟩, by rw [he]⟩)
theorem num_below (L : List Int) (c j : Nat) (hc : c < 128) (hj : j < numC L (c : Int)) : ∃ b, b < 7 ∧ nextB L c b = true ∧ numC L ((c ||| 2 ^ b : Nat) : Int) = j := by
  rw [numC_mex L c hc] at hj
  have h := mexN_below _ j hj
  obtain ⟨d, hd, he⟩ := List.mem_map.1 h
  obtain ⟨b, hb, hn, rfl⟩ := (litL_iff L c d).1 hd
  exact ⟨b, hb, hn, by omega⟩
theorem top_bit : ∀ X : Fin 8, X.val ≠ 0 → ∃ t : Fin 3, X.val &&& 2 ^ t.val ≠ 0 ∧ ∀ g : Fin 8, g.val &&& 2 ^ t.val ≠ 0 → g.val ^^^ X.val < g.val := by decide +kernel
theorem fold_bit (L : List Int) (msk : Nat) : ∀ (l : List Int) (s : Nat), s &&& msk = 0 → (∀ x ∈ l, numC L x &&& msk = 0) → l.foldl (fun s c => s ^^^ numC L c) s &&& msk = 0 := by
  intro l
  induction l with
  | nil => intro s hs _; exact hs
  | cons a l ih =>
    intro s hs hl
    refine ih _ ?_ fun x hx => hl x (List.mem_cons_of_mem _ hx)
    rw [Nat.and_xor_distrib_right, hs, hl a List.mem_cons_self]
    rfl
theorem fold_xor (L : List Int) : ∀ (l : List Int) (s t : Nat), l.foldl (fun s c => s ^^^ numC L c) (s ^^^ t) = l.foldl (fun s c => s ^^^ numC L c) s ^^^ t := by
  intro l
  induction l with
  | nil => intro s t; rfl
  | cons a l ih =>
    intro s t
    rw [List.foldl_cons, List.foldl_cons, ← ih]
    congr 1
    rw [Nat.xor_assoc, Nat.xor_comm t, ← Nat.xor_assoc]
theorem nimN_eq (L R : List Int) : nimN L R = R.foldl (fun s c => s ^^^ numC L c) 0 := by unfold nimN nimP; rw [List.take_length]
theorem fold_set (L : List Int) (y : Int) : ∀ (R : List Int) (i s : Nat), i < R.length → (R.set i y).foldl (fun s c => s ^^^ numC L c) s = R.foldl (fun s c => s ^^^ numC L c) s ^^^ numC L (R.getD i 0) ^^^ numC L y := by
  intro R
  induction R with
  | nil => intro i s h; simp at h
  | cons a R ih =>
    intro i s h
    cases i with
    | zero =>
      show R.foldl _ (s ^^^ numC L y) = R.foldl _ (s ^^^ numC L a) ^^^ numC L a ^^^ numC L y
      rw [fold_xor, fold_xor, Nat.xor_assoc (R.foldl _ s), Nat.xor_self, Nat.xor_zero]
    | succ i =>
      show (R.set i y).foldl _ (s ^^^ numC L a) = R.foldl _ (s ^^^ numC L a) ^^^ numC L (R.getD i 0) ^^^ numC L y
      exact ih i _ (by simpa using h)
theorem nim_set (L R : List Int) (i : Nat) (y : Int) (h : i < R.length) : nimN L (R.set i y) = nimN L R ^^^ numC L (R.getD i 0) ^^^ numC L y := by
  rw [nimN_eq, nimN_eq]
  exact fold_set L y R i 0 h
/-- Who faces a sum that is not 0 has a move to 0. -/
theorem nim_move (L R : List Int) (hR : ∀ x ∈ R, inB 0 127 x = true) (h : nimN L R ≠ 0) : ∃ i b, i < R.length ∧ b < 7 ∧ movQ R L true i b = true := by
  have hlt : nimN L R < 8 := nimP_lt L R hR R.length
  obtain ⟨t, ht1, ht2⟩ := top_bit ⟨nimN L R, hlt⟩ h
  have hex : ∃ x ∈ R, numC L x &&& 2 ^ t.val ≠ 0 := by
    refine Classical.byContradiction fun hno => ht1 ?_
    show nimN L R &&& 2 ^ t.val = 0
    rw [nimN_eq]
    exact fold_bit L (2 ^ t.val) R 0 (Nat.zero_and _) fun x hx => Classical.byContradiction fun h0 => hno ⟨x, hx, h0⟩
  obtain ⟨x, hx, hbit⟩ := hex
  obtain ⟨i, hi, rfl⟩ := List.getElem_of_mem hx
  have hg : R.getD i 0 = R[i] := by rw [List.getD_eq_getElem?_getD, List.getElem?_eq_getElem hi]; rfl
  rw [← hg] at hbit hx
  have hin := hR _ hx
  have hgl := numC_lt L _ hin
  have hlow := ht2 ⟨numC L (R.getD i 0), hgl⟩ hbit
  simp only at hlow
  rw [inB_iff] at hin
  obtain ⟨c, hc⟩ := Int.eq_ofNat_of_zero_le hin.1
  rw [hc] at hlow hin
  obtain ⟨b, hb, hn, hnum⟩ := num_below L c _ (by omega) hlow
  refine ⟨i, b, hi, hb, ?_⟩
  unfold movQ
  rw [hc, Int.toNat_natCast, hn, hnum]
  have : nimN L R ^^^ numC L (c : Int) ^^^ (numC L (c : Int) ^^^ nimN L R) = 0 := by
    rw [Nat.xor_assoc, ← Nat.xor_assoc (numC L (c : Int)), Nat.xor_self, Nat.zero_xor, Nat.xor_self]
  simp [this]
theorem nim_none (L R : List Int) (hR : ∀ x ∈ R, inB 0 127 x = true) (h : nimN L R = 0) (i b : Nat) (hi : i < R.length) (hb : b < 7) : movQ R L true i b = false := by
  cases hq : movQ R L true i b with
  | false => rfl
  | true =>
    exfalso
    have hin := hR _ (memGetD hi)
    rw [inB_iff] at hin
    obtain ⟨c, hc⟩ := Int.eq_ofNat_of_zero_le hin.1
    unfold movQ at hq
    rw [hc, Int.toNat_natCast, h, Nat.zero_xor] at hq
    simp only [Bool.and_eq_true, Bool.or_eq_true, Bool.not_true, Bool.false_eq_true, false_or, beq_iff_eq] at hq
    have hne := num_next L c b (by omega) hb hq.1
    apply hne
    have h0 := hq.2
    have : numC L (c : Int) ^^^ (numC L (c : Int) ^^^ numC L ((c ||| 2 ^ b : Nat) : Int)) = numC L (c : Int) := by rw [h0, Nat.xor_zero]
    rw [← Nat.xor_assoc, Nat.xor_self, Nat.zero_xor] at this
    exact this
theorem movN_pos (R L : List Int) (wins : Bool) : ∀ m, 0 < movN R L wins m ↔ ∃ k, k < m ∧ movQ R L wins (k / 7) (k % 7) = true := by
  intro m
  induction m with
  | zero => simp [movN]
  | succ m ih =>
    have hs : movN R L wins (m + 1) = if movQ R L wins (m / 7) (m % 7) = true then movN R L wins m + 1 else movN R L wins m := rfl
    rw [hs]
    by_cases h : movQ R L wins (m / 7) (m % 7) = true
    · rw [if_pos h]
      exact ⟨fun _ => ⟨m, by omega, h⟩, fun _ => by omega⟩
    · rw [if_neg h, ih]
      constructor
      · rintro ⟨k, h1, h2⟩; exact ⟨k, by omega, h2⟩
      · rintro ⟨k, h1, h2⟩
        by_cases hk : k = m
        · subst hk; exact absurd h2 h
        · exact ⟨k, by omega, h2⟩
/-- There are winning moves just where who is to light a bar wins. -/
theorem wins_iff (R L : List Int) (m : Nat) (h : goodRow R L m = true) : decide (0 < winN R L m) = winB R L m := by
  have hR := fun x hx => (goodRow_mem h x hx).1
  unfold winN winB
  rw [if_pos h, h, Bool.true_and, Bool.eq_iff_iff]
  simp only [decide_eq_true_eq, bne_iff_ne, ne_eq]
  rw [movN_pos]
  constructor
  · rintro ⟨k, hk, hq⟩ h0
    have := nim_none L R hR (by omega) (k / 7) (k % 7) (by omega) (Nat.mod_lt _ (by omega))
    rw [this] at hq
    cases hq
  · intro h0
    obtain ⟨i, b, hi, hb, hq⟩ := nim_move L R hR (by omega)
    refine ⟨i * 7 + b, by omega, ?_⟩
    rw [show (i * 7 + b) / 7 = i by omega, show (i * 7 + b) % 7 = b by omega]
    exact hq
theorem movF_at (R L : List Int) (wins : Bool) : ∀ m j, j < movN R L wins m → ∃ i b : Nat, i * 7 + b < m ∧ b < 7 ∧ movQ R L wins i b = true ∧ (movF R L wins m).getD (j * 2) 0 = i ∧ (movF R L wins m).getD (j * 2 + 1) 0 = b := by
  intro m
  induction m with
  | zero => intro j hj; exact absurd hj (Nat.not_lt_zero _)
  | succ m ih =>
    intro j hj
    have hs : movN R L wins (m + 1) = if movQ R L wins (m / 7) (m % 7) = true then movN R L wins m + 1 else movN R L wins m := rfl
    have hf : movF R L wins (m + 1) = if movQ R L wins (m / 7) (m % 7) = true then movF R L wins m ++ [((m / 7 : Nat) : Int), ((m % 7 : Nat) : Int)] else movF R L wins m := rfl
    have hl := movF_len R L wins m
    rw [hs] at hj
    rw [hf]
    by_cases h : movQ R L wins (m / 7) (m % 7) = true
    · rw [if_pos h] at hj ⊢
      by_cases hjm : j < movN R L wins m
      · obtain ⟨i, b, h1, h2, h3, h4, h5⟩ := ih j hjm
        refine ⟨i, b, by omega, h2, h3, ?_, ?_⟩
        · rw [List.getD_eq_getElem?_getD, List.getElem?_append_left (by omega), ← List.getD_eq_getElem?_getD, h4]
        · rw [List.getD_eq_getElem?_getD, List.getElem?_append_left (by omega), ← List.getD_eq_getElem?_getD, h5]
      · have hje : j = movN R L wins m := by omega
        refine ⟨m / 7, m % 7, by omega, Nat.mod_lt _ (by omega), h, ?_, ?_⟩
        · rw [List.getD_eq_getElem?_getD, List.getElem?_append_right (by omega), hl, hje, Nat.sub_self]; rfl
        · rw [List.getD_eq_getElem?_getD, List.getElem?_append_right (by omega), hl, hje, show movN R L wins m * 2 + 1 - movN R L wins m * 2 = 1 by omega]; rfl
    · rw [if_neg h] at hj ⊢
      obtain ⟨i, b, h1, h2, h3⟩ := ih j hj
      exact ⟨i, b, by omega, h2, h3⟩
/-- A winning move leads to a row that is lost. -/
theorem win_next (R L : List Int) (m j : Nat) (h : goodRow R L m = true) (hj : j < winN R L m) : ∃ (i b c : Nat), i < R.length ∧ b < 7 ∧ c < 128 ∧ R.getD i 0 = (c : Int) ∧ (winF R L m).getD (j * 2) 0 = i ∧ (winF R L m).getD (j * 2 + 1) 0 = b ∧
    goodRow (R.set i ((c ||| 2 ^ b : Nat) : Int)) L m = true ∧ winB (R.set i ((c ||| 2 ^ b : Nat) : Int)) L m = false := by
  have hR := fun x hx => (goodRow_mem h x hx).1
  unfold winN at hj
  rw [if_pos h] at hj
  obtain ⟨i, b, h1, h2, h3, h4, h5⟩ := movF_at R L true _ j hj
  have hi : i < R.length := by omega
  have hin := hR _ (memGetD hi)
  rw [inB_iff] at hin
  obtain ⟨c, hc⟩ := Int.eq_ofNat_of_zero_le hin.1
  have hq := h3
  unfold movQ at hq
  rw [hc, Int.toNat_natCast] at hq
  simp only [Bool.and_eq_true, Bool.or_eq_true, Bool.not_true, Bool.false_eq_true, false_or, beq_iff_eq] at hq
  have hlt := lor_lt c b (by omega) h2
  have hgood : goodRow (R.set i ((c ||| 2 ^ b : Nat) : Int)) L m = true := by
    have hg := h
    unfold goodRow at hg ⊢
    simp only [Bool.and_eq_true] at hg ⊢
    have hrow := hg.1.2
    refine ⟨⟨hg.1.1, ?_⟩, ?_⟩
    · unfold rowB at hrow ⊢
      simp only [Bool.and_eq_true] at hrow ⊢
      refine ⟨by rw [List.length_set]; exact hrow.1, ?_⟩
      rw [List.all_eq_true] at hrow ⊢
      intro x hx
      rcases List.mem_or_eq_of_mem_set hx with hx | hx
      · exact hrow.2 x hx
      · subst hx; rw [inB_iff]; omega
    · rw [List.all_eq_true]
      intro x hx
      rcases List.mem_or_eq_of_mem_set hx with hx | hx
      · exact List.all_eq_true.1 hg.2 x hx
      · subst hx; exact way_next hq.1
  refine ⟨i, b, c, hi, h2, by omega, hc, by unfold winF; rw [if_pos h]; exact h4, by unfold winF; rw [if_pos h]; exact h5, hgood, ?_⟩
  unfold winB
  rw [hgood, nim_set L R i _ hi, hc, hq.2]
  rfl
end Go.Proofs.YtcddfpbohejhhaaGreat

namespace Go.Proofs.YtcddfpbohejhhaaGreat
open Go.RowKit

theorem movF_head (R L : List Int) (wins : Bool) : ∀ m, movN R L wins m ≠ 0 → ∃ i b, b < 7 ∧ i * 7 + b < m ∧ movQ R L wins i b = true ∧ (movF R L wins m).getD 0 0 = (i : Int) ∧ (movF R L wins m).getD 1 0 = (b : Int) := by
  intro m
  induction m with
  | zero => intro h; exact absurd rfl h
  | succ m ih =>
    intro h
    by_cases h0 : movN R L wins m = 0
    · have hF : movF R L wins m = [] := List.eq_nil_of_length_eq_zero (by rw [movF_len, h0])
      unfold movN at h
      by_cases hq : movQ R L wins (m / 7) (m % 7) = true
      · refine ⟨m / 7, m % 7, Nat.mod_lt _ (by decide), by omega, hq, ?_, ?_⟩
        · unfold movF; rw [if_pos hq, hF]; rfl
        · unfold movF; rw [if_pos hq, hF]; rfl
      · rw [if_neg hq] at h; exact absurd h0 h
    · obtain ⟨i, b, hb, hlt, hq, e0, e1⟩ := ih h0
      have hl := movF_len R L wins m
      refine ⟨i, b, hb, by omega, hq, ?_, ?_⟩
      · unfold movF
        split
        · rw [List.getD_eq_getElem?_getD, List.getElem?_append_left (by omega), ← List.getD_eq_getElem?_getD]; exact e0
        · exact e0
      · unfold movF
        split
        · rw [List.getD_eq_getElem?_getD, List.getElem?_append_left (by omega), ← List.getD_eq_getElem?_getD]; exact e1
        · exact e1
/-- The row is of cells on the way. -/
def rowOk (R L : List Int) : Prop := ∀ x ∈ R, inB 0 127 x = true ∧ wayB x L = true
def mus (R : List Int) : Nat := (R.map fun c => 127 - c.toNat).sum
theorem mus_le (R : List Int) : mus R ≤ 127 * R.length := by
  induction R with
  | nil => simp [mus]
  | cons a R ih =>
    simp only [mus, List.map_cons, List.sum_cons, List.length_cons] at ih ⊢
    omega
theorem mus_set : ∀ (R : List Int) (i : Nat) (X : Int), i < R.length → (R.getD i 0).toNat < X.toNat → X.toNat ≤ 127 → mus (R.set i X) < mus R
  | a :: R, 0, X, _, h2, h3 => by
    simp only [List.getD_cons_zero] at h2
    simp only [mus, List.set_cons_zero, List.map_cons, List.sum_cons]
    omega
  | a :: R, i + 1, X, h1, h2, h3 => by
    have ih := mus_set R i X (by simpa using h1) (by simpa using h2) h3
    simp only [mus, List.set_cons_succ, List.map_cons, List.sum_cons] at ih ⊢
    omega
/-- The moves of which the first one is made. -/
def pickN (R L : List Int) : Nat := if movN R L true (R.length * 7) = 0 then movN R L false (R.length * 7) else movN R L true (R.length * 7)
def pickF (R L : List Int) : List Int := if movN R L true (R.length * 7) = 0 then movF R L false (R.length * 7) else movF R L true (R.length * 7)
def nextR (R L : List Int) : List Int := R.set ((pickF R L).getD 0 0).toNat (((R.getD ((pickF R L).getD 0 0).toNat 0).toNat ||| 2 ^ ((pickF R L).getD 1 0).toNat : Nat) : Int)
/-- The moves that are made, in at most k rounds. -/
def playG (L : List Int) : Nat → List Int → List Int
  | 0, _ => []
  | k + 1, R => if pickN R L = 0 then [] else (pickF R L).getD 0 0 :: (pickF R L).getD 1 0 :: playG L k (nextR R L)
theorem playG_stop (L R : List Int) (k : Nat) (h : pickN R L = 0) : playG L k R = [] := by
  cases k with
  | zero => rfl
  | succ k => show (if pickN R L = 0 then _ else _) = _; rw [if_pos h]
theorem nextB_up {L : List Int} {c b : Nat} (h : nextB L c b = true) : c < c ||| 2 ^ b := by
  unfold nextB at h
  simp only [Bool.and_eq_true, bne_iff_ne, ne_eq] at h
  have : c ≤ c ||| 2 ^ b := Nat.left_le_or
  omega
theorem pick_facts {R L : List Int} (hR : rowOk R L) (h : pickN R L ≠ 0) : ∃ i b C, i < R.length ∧ b < 7 ∧ C < 128 ∧ R.getD i 0 = ((C : Nat) : Int) ∧ (pickF R L).getD 0 0 = ((i : Nat) : Int) ∧ (pickF R L).getD 1 0 = ((b : Nat) : Int) ∧ C ||| 2 ^ b < 128 ∧
    nextR R L = R.set i ((C ||| 2 ^ b : Nat) : Int) ∧ rowOk (nextR R L) L ∧ mus (nextR R L) < mus R ∧ (nextR R L).length = R.length := by
  have key : ∃ wins i b, b < 7 ∧ i * 7 + b < R.length * 7 ∧ movQ R L wins i b = true ∧ (pickF R L).getD 0 0 = (i : Int) ∧ (pickF R L).getD 1 0 = (b : Int) := by
    unfold pickN at h
    unfold pickF
    split at h
    · rename_i h0
      rw [if_pos h0]
      exact ⟨false, movF_head R L false _ h⟩
    · rename_i h0
      rw [if_neg h0]
      exact ⟨true, movF_head R L true _ h⟩
  obtain ⟨wins, i, b, hb, hlt, hq, e0, e1⟩ := key
  have hi : i < R.length := by omega
  have hm := hR _ (memGetD hi)
  have hc := hm.1
  rw [inB_iff] at hc
  obtain ⟨C, hC⟩ := Int.eq_ofNat_of_zero_le hc.1
  have hC2 : C < 128 := by omega
  have hnx : nextB L C b = true := by
    unfold movQ at hq
    simp only [Bool.and_eq_true] at hq
    have := hq.1
    rw [hC, Int.toNat_natCast] at this
    exact this
  have hl := lor_lt C b hC2 hb
  have hup := nextB_up hnx
  have hw := way_next hnx
  have en : nextR R L = R.set i ((C ||| 2 ^ b : Nat) : Int) := by
    unfold nextR
    rw [e0, e1, Int.toNat_natCast, Int.toNat_natCast, hC, Int.toNat_natCast]
  refine ⟨i, b, C, hi, hb, hC2, hC, e0, e1, hl, en, ?_, ?_, ?_⟩
  · rw [en]
    intro x hx
    rcases List.mem_or_eq_of_mem_set hx with h | rfl
    · exact hR x h
    · exact ⟨by rw [inB_iff]; omega, hw⟩
  · rw [en]
    exact mus_set R i _ hi (by rw [hC]; omega) (by omega)
  · rw [en, List.length_set]
end Go.Proofs.YtcddfpbohejhhaaGreat

namespace Go.Proofs.YtcddfpbohejhhaaGreat
open Go.RowKit

/-- append of a whole slice of numbers to an empty slice without room. -/
theorem wpAppendMany {ops : Array Oper} {rest : List Oper} {o : Oper} {a : Act} {Q : Exit → Act → World → Prop} (w : World) (hgd : o.guard = none) (s x : Operand)
    (ho : o.op = .call { callee := .builtin .append, args := #[s, x], argTypes := #[24, 24] })
    (b off : Nat) (hs : a.eval s = .slice (some ⟨b, off, none⟩) 0 0) (ad : Addr) (L : List Int) (n c : Nat) (hx : a.eval x = .slice (some ad) n c) (hL : L.length = n)
    (hc : ∀ j, j < n → w.cell? (ad.add j) = some (.int .i64 (L.getD j 0))) (hn : n ≤ 1000000) (B : Nat) (hB : B ≤ w.heap.size)
    (h : ∀ ao cap w', ownsInts w' B (.slice ao n cap) L → (n = 0 ∨ ∃ g, ao = some ⟨g, 0, none⟩) → Below w.heap.size w w' → wpList Tryz.prog ops Q rest (a.put o.dst (.slice ao n cap)) w') :
    wpList Tryz.prog ops Q (o :: rest) a w := by
  obtain ⟨i0, hi, hz0, hz1, hz2⟩ := info_parts infoInt
  refine wpList_append_arg w hgd s x _ ho 3 i0 (.int .i64 0) 1 8 Tryz.underlying24 hi hz0 hz1 hz2 rfl (by decide) b off 0 0 [] hs rfl (by simp) ad n c (L.map (Value.int .i64)) hx (by simp [hL]) ?_ ?_ ?_ (by unfold maxLen; omega) (by omega) ?_ ?_
  · intro j u hu
    rw [List.getElem?_map] at hu
    obtain ⟨v, hv, rfl⟩ := Option.map_eq_some_iff.1 hu
    have hj : j < L.length := (List.getElem?_eq_some_iff.1 hv).1
    rw [hc j (by omega), List.getD_eq_getElem?_getD, hv]
    rfl
  · intro u hu
    rw [List.mem_map] at hu
    obtain ⟨v, _, rfl⟩ := hu
    simp [Value.oneCell']
  · intro h0 j hj
    simp at hj; omega
  · intro h0
    have hn0 : n = 0 := by omega
    subst hn0
    have : L = [] := List.eq_nil_of_length_eq_zero hL
    subst this
    exact h _ _ _ (ownsInts_zero _ _ _) (.inl rfl) (Below.refl _ _)
  · intro h0 v' w' hr hg
    have hb : Below w.heap.size w w' := (Below.refl _ _).grown hg (Nat.le_refl _) (fun k hk => by cases hk)
    have hr2 : ownsInts w' B v' L := by
      refine .inl ?_
      rw [hL]
      have hr' := hr
      rw [Nat.zero_add, List.nil_append] at hr'
      exact ⟨hr'.1, by
        rcases hr'.2 with h2 | ⟨g, cap, cur, hv, hBg, r⟩
        · exact .inl h2
        · exact .inr ⟨g, cap, cur, hv, by omega, r⟩⟩
    obtain ⟨ao, cap, rfl, hsh⟩ := ownsInts_shape hr2
    rw [hL] at hr2 ⊢
    refine h ao cap w' hr2 ?_ hb
    rcases hsh with h3 | ⟨g, h3, _⟩
    · left; rw [h3] at hL; simpa using hL.symm
    · exact .inr ⟨g, h3⟩
theorem rd_at {w : World} {ad : Addr} {L : List Int} {n : Nat} (hr : RdI w (some ad) L) (hn : L.length = n) : ∀ j, j < n → w.cell? (ad.add j) = some (.int .i64 (L.getD j 0)) := by
  intro j hj
  rcases hr with h | ⟨b, o, he, _, hc⟩
  · rw [h] at hn; simp at hn; omega
  · simp only [Option.some.injEq] at he
    subst he
    rw [Addr.add_lit]
    exact hc j (by omega)
theorem l1Own_any (ad : Addr) (n cap : Nat) (L : List Int) (w : World) (hr : RdI w (some ad) L) (hn : L.length = n) (hm : n ≤ 1000000) :
    Calls Tryz.prog 57 #[.slice (some ad) n cap] w fun e w' => ∃ ao c, e = .returned (.slice ao n c) ∧ ownsInts w' w.heap.size (.slice ao n c) L ∧ Below w.heap.size w w' := by
  have HN := Lib.hid hn
  have HR := Lib.hid (rd_at (RdI_below hr (Go.Joins.below_alloc1 w (.cells #[] 3))) hn)
  clear hr hn
  have hA1 := @cellAlloc; have hA2 := @frozenAlloc; have hA3 := @setCellAlloc; go_enter Tryz.func57, Tryz.ntmps57
  go_wp2_with (first | (at_builtin; go_must (refine wpAppendMany (w.alloc (.cells #[] 3)) (by rfl) _ _ (by rfl) w.heap.size 0 (by rfl) ad L n cap (by rfl) HN.out HR.out hm w.heap.size (by simp) ?_; intro ao c w2 hown _ hb)))
  go_ret
  exact ⟨ao, c, rfl, hown, belowThen (Go.Joins.below_alloc1 _ _) hb⟩
theorem Clone_any (ad : Addr) (n cap : Nat) (L : List Int) (w : World) (hr : RdI w (some ad) L) (hn : L.length = n) (hm : n ≤ 1000000) :
    Calls Tryz.prog 54 #[.slice (some ad) n cap] w fun e w' => ∃ ao c, e = .returned (.slice ao n c) ∧ ownsInts w' w.heap.size (.slice ao n c) L ∧ Below w.heap.size w w' := by
  have HN := Lib.hid hn
  have HR := Lib.hid (rd_at (RdI_below hr (Go.Joins.below_alloc1 w (.cells #[] 3))) hn)
  clear hr hn
  have hnil : ∀ W : World, (binOp .eql 24 (.slice (some ad) n cap) (.slice none 0 0)).run Tryz.prog W = .ok (.bool false) W := fun W => Lib.run_eql_slice_nil W 24 3 (some ad) n cap 0 0 Tryz.underlying24
  have hA1 := @cellAlloc; have hA2 := @frozenAlloc; have hA3 := @setCellAlloc; go_enter Tryz.func54, Tryz.ntmps54
  go_wp2_with (first | (at_builtin; go_must (refine wpAppendMany (w.alloc (.cells #[] 3)) (by rfl) _ _ (by rfl) w.heap.size 0 (by rfl) ad L n cap (by rfl) HN.out HR.out hm w.heap.size (by simp) ?_; intro ao c w2 hown _ hb)))
  go_ret
  exact ⟨ao, c, rfl, hown, belowThen (Go.Joins.below_alloc1 _ _) hb⟩
theorem CloneN_any (ao : Option Addr) (n cap : Nat) (L : List Int) (w : World) (hr : RdI w ao L) (hn : L.length = n) (hm : n ≤ 1000000) :
    Calls Tryz.prog 54 #[.slice ao n cap] w fun e w' => ∃ ao c, e = .returned (.slice ao n c) ∧ ownsInts w' w.heap.size (.slice ao n c) L ∧ Below w.heap.size w w' := by
  rcases ao with _ | ad
  · have hL : L = [] := by
      rcases hr with h | ⟨_, _, h, _⟩
      · exact h
      · cases h
    subst hL
    have hn0 : n = 0 := by simpa using hn.symm
    subst hn0
    have hnil : ∀ W : World, (binOp .eql 24 (.slice none 0 cap) (.slice none 0 0)).run Tryz.prog W = .ok (.bool true) W := fun W => Lib.run_eql_slice_nil W 24 3 none 0 cap 0 0 Tryz.underlying24
    have hA1 := @cellAlloc; have hA2 := @frozenAlloc; have hA3 := @setCellAlloc; go_enter Tryz.func54, Tryz.ntmps54
    go_wp2
    go_ret
    exact ⟨none, 0, rfl, ownsInts_nil _ _, Below.refl _ _⟩
  · exact Clone_any ad n cap L w hr hn hm
end Go.Proofs.YtcddfpbohejhhaaGreat
