/- Joined texts: PlayM. -/
import Derived.Test.YtcddfpbohejhhaaGreatMg07
import Derived.Test.YtcddfpbohejhhaaGreatMg09
import Derived.Test.YtcddfpbohejhhaaGreatMg14
import Derived.Test.YtcddfpbohejhhaaGreatMg15
import Derived.Lib.Hide
namespace Go.Proofs.YtcddfpbohejhhaaGreat
open Go.RowKit

theorem cnt_bar : ∀ c : Fin 128, ∀ b : Fin 7, (c.val ||| 2 ^ b.val) ≠ c.val → cnt (c.val ||| 2 ^ b.val) = cnt c.val + 1 := by decide +kernel
theorem cnt_sub : ∀ c : Fin 128, ∀ x : Fin 128, x.val &&& c.val = c.val → cnt c.val ≤ cnt x.val := by decide +kernel
theorem cnt_le7 (c : Nat) : cnt c ≤ 7 := cntP_le c 7
theorem lit_cnt {L : List Int} {c y : Nat} (hc : c < 128) (hy : y ∈ litL L c) : cnt y = cnt c + 1 := by
  obtain ⟨b, hb, hn, rfl⟩ := (litL_iff L c y).1 hy
  unfold nextB at hn
  simp only [Bool.and_eq_true, bne_iff_ne, ne_eq] at hn
  exact cnt_bar ⟨c, hc⟩ ⟨b, hb⟩ hn.1
theorem foldMin_all : ∀ (l : List Int) (z : Int), (l.foldl min z = z ∨ l.foldl min z ∈ l) ∧ l.foldl min z ≤ z ∧ ∀ y ∈ l, l.foldl min z ≤ y := by
  intro l
  induction l with
  | nil => intro z; simp
  | cons a l ih =>
    intro z
    obtain ⟨h1, h2, h3⟩ := ih (min z a)
    rw [List.foldl_cons]
    refine ⟨?_, by omega, ?_⟩
    · rcases h1 with h1 | h1
      · rcases Int.le_total z a with h | h
        · left; rw [h1]; omega
        · right; rw [h1, show min z a = a by omega]; simp
      · exact .inr (List.mem_cons_of_mem _ h1)
    · intro y hy
      rcases List.mem_cons.1 hy with rfl | hy
      · omega
      · exact h3 y hy
theorem foldMax_all : ∀ (l : List Int) (z : Int), (l.foldl max z = z ∨ l.foldl max z ∈ l) ∧ z ≤ l.foldl max z ∧ ∀ y ∈ l, y ≤ l.foldl max z := by
  intro l
  induction l with
  | nil => intro z; simp
  | cons a l ih =>
    intro z
    obtain ⟨h1, h2, h3⟩ := ih (max z a)
    rw [List.foldl_cons]
    refine ⟨?_, by omega, ?_⟩
    · rcases h1 with h1 | h1
      · rcases Int.le_total z a with h | h
        · right; rw [h1, show max z a = a by omega]; simp
        · left; rw [h1]; omega
      · exact .inr (List.mem_cons_of_mem _ h1)
    · intro y hy
      rcases List.mem_cons.1 hy with rfl | hy
      · omega
      · exact h3 y hy
theorem getD_mem {l : List Int} (h : l ≠ []) : l.getD 0 0 ∈ l := by
  cases l with
  | nil => exact absurd rfl h
  | cons a l => simp
theorem minT_spec {l : List Int} (h : l ≠ []) : foldT min (l.getD 0 0) l ∈ l ∧ ∀ y ∈ l, foldT min (l.getD 0 0) l ≤ y := by
  obtain ⟨h1, _, h3⟩ := foldMin_all l (l.getD 0 0)
  refine ⟨?_, h3⟩
  rcases h1 with h1 | h1
  · show l.foldl min (l.getD 0 0) ∈ l
    rw [h1]; exact getD_mem h
  · exact h1
theorem maxT_spec {l : List Int} (h : l ≠ []) : foldT max (l.getD 0 0) l ∈ l ∧ ∀ y ∈ l, y ≤ foldT max (l.getD 0 0) l := by
  obtain ⟨h1, _, h3⟩ := foldMax_all l (l.getD 0 0)
  refine ⟨?_, h3⟩
  rcases h1 with h1 | h1
  · show l.foldl max (l.getD 0 0) ∈ l
    rw [h1]; exact getD_mem h
  · exact h1
/-- The shortest play ends at a last cell with the fewest bars, the longest at one with the most. -/
theorem play_range (L : List Int) : ∀ (k c : Nat), c < 128 → 128 - c ≤ k → wayB (c : Int) L = true →
    (∃ x ∈ lastP L c 128, valC L shortF c + (cnt c : Int) = (cnt x : Int)) ∧ (∀ x ∈ lastP L c 128, valC L shortF c + (cnt c : Int) ≤ (cnt x : Int)) ∧
    (∃ x ∈ lastP L c 128, valC L longF c + (cnt c : Int) = (cnt x : Int)) ∧ (∀ x ∈ lastP L c 128, (cnt x : Int) ≤ valC L longF c + (cnt c : Int)) ∧
    (valC L shortF c = valC L longF c → valC L missF c = decide (valC L shortF c % 2 = 0)) := by
  intro k
  induction k with
  | zero => intro c hc h; omega
  | succ k ih =>
    intro c hc hk hw
    have hnext := lastP_next hc hw
    have hmem : ∀ y, y ∈ litL L c → _ := fun y hy => ih y (litP_mem hc (Nat.le_refl 7) hy).2.1 (by have := (litP_mem hc (Nat.le_refl 7) hy).1; omega) (litP_mem hc (Nat.le_refl 7) hy).2.2
    have hcy : ∀ y, y ∈ litL L c → cnt y = cnt c + 1 := fun y hy => lit_cnt hc hy
    rw [valC_eq L shortF c hc, valC_eq L longF c hc, valC_eq L missF c hc]
    cases hl : litL L c with
    | nil =>
      rw [hl] at hnext
      have hx : ∀ x, x ∈ lastP L c 128 ↔ x = c := fun x => by rw [hnext]; simp
      refine ⟨⟨c, (hx c).2 rfl, ?_⟩, fun x h => ?_, ⟨c, (hx c).2 rfl, ?_⟩, fun x h => ?_, fun _ => ?_⟩
      · simp [shortF]
      · rw [(hx x).1 h]; simp [shortF]
      · simp [longF]
      · rw [(hx x).1 h]; simp [longF]
      · simp [missF, shortF]
    | cons y0 l0 =>
      rw [← hl]
      have hne : litL L c ≠ [] := by rw [hl]; simp
      have hx : ∀ x, x ∈ lastP L c 128 ↔ ∃ y ∈ litL L c, x ∈ lastP L y 128 := fun x => by rw [hnext]; simp [hne]
      have hS := minT_spec (l := (litL L c).map (valC L shortF)) (by simpa using hne)
      have hG := maxT_spec (l := (litL L c).map (valC L longF)) (by simpa using hne)
      have eS : shortF c ((litL L c).map (valC L shortF)) = wrap64 (1 + foldT min (((litL L c).map (valC L shortF)).getD 0 0) ((litL L c).map (valC L shortF))) := by
        show (if _ = 0 then _ else _) = _
        rw [if_neg (by rw [List.length_map, List.length_eq_zero_iff]; exact hne)]
      have eG : longF c ((litL L c).map (valC L longF)) = wrap64 (1 + foldT max (((litL L c).map (valC L longF)).getD 0 0) ((litL L c).map (valC L longF))) := by
        show (if _ = 0 then _ else _) = _
        rw [if_neg (by rw [List.length_map, List.length_eq_zero_iff]; exact hne)]
      have eM : missF c ((litL L c).map (valC L missF)) = ((litL L c).map (valC L missF)).contains false := by
        show (decide (_ = 0) || _) = _
        rw [decide_eq_false (by rw [List.length_map, List.length_eq_zero_iff]; exact hne), Bool.false_or]
      rw [eS, eG, eM]
      generalize foldT min (((litL L c).map (valC L shortF)).getD 0 0) ((litL L c).map (valC L shortF)) = s at hS
      generalize foldT max (((litL L c).map (valC L longF)).getD 0 0) ((litL L c).map (valC L longF)) = g at hG
      obtain ⟨hs1, hs2⟩ := hS
      obtain ⟨hg1, hg2⟩ := hG
      obtain ⟨ys, hys, rfl⟩ := List.mem_map.1 hs1
      obtain ⟨yg, hyg, rfl⟩ := List.mem_map.1 hg1
      have hs2' : ∀ y ∈ litL L c, valC L shortF ys ≤ valC L shortF y := fun y hy => hs2 _ (List.mem_map.2 ⟨y, hy, rfl⟩)
      have hg2' : ∀ y ∈ litL L c, valC L longF y ≤ valC L longF yg := fun y hy => hg2 _ (List.mem_map.2 ⟨y, hy, rfl⟩)
      obtain ⟨⟨xs, hxs1, hxs2⟩, hys2, _⟩ := hmem ys hys
      obtain ⟨_, _, ⟨xg, hxg1, hxg2⟩, hyg2, _⟩ := hmem yg hyg
      have c1 := hcy ys hys
      have c2 := hcy yg hyg
      have b1 := cnt_le7 xs
      have b2 := cnt_le7 ys
      have b3 := cnt_le7 xg
      have b4 := cnt_le7 yg
      have w1 : wrap64 (1 + valC L shortF ys) = 1 + valC L shortF ys := wrapIn _ (by omega) (by omega)
      have w2 : wrap64 (1 + valC L longF yg) = 1 + valC L longF yg := wrapIn _ (by omega) (by omega)
      rw [w1, w2]
      refine ⟨⟨xs, (hx xs).2 ⟨ys, hys, hxs1⟩, by omega⟩, fun x h => ?_, ⟨xg, (hx xg).2 ⟨yg, hyg, hxg1⟩, by omega⟩, fun x h => ?_, fun he => ?_⟩
      · obtain ⟨y, hy, h⟩ := (hx x).1 h
        have := (hmem y hy).2.1 x h
        have := hs2' y hy
        have := hcy y hy
        omega
      · obtain ⟨y, hy, h⟩ := (hx x).1 h
        have := (hmem y hy).2.2.2.1 x h
        have := hg2' y hy
        have := hcy y hy
        omega
      · have hall : ∀ y ∈ litL L c, valC L missF y = decide (valC L shortF ys % 2 = 0) := by
          intro y hy
          obtain ⟨⟨x1, h1, h2⟩, h3, _, h4, h5⟩ := hmem y hy
          have h6 := h4 x1 h1
          have h7 := hs2' y hy
          have h8 := hg2' y hy
          have e1 : valC L shortF y = valC L shortF ys := by omega
          have e2 : valC L shortF y = valC L longF y := by omega
          rw [h5 e2, e1]
        rw [Bool.eq_iff_iff, List.contains_iff_mem, List.mem_map, decide_eq_true_eq]
        constructor
        · rintro ⟨y, hy, h⟩
          rw [hall y hy, decide_eq_false_iff_not] at h
          omega
        · intro h
          exact ⟨ys, hys, by rw [hall ys hys, decide_eq_false_iff_not]; omega⟩
theorem foldPlus (B : Int) (hB : 0 ≤ B) : ∀ (l : List Int) (s : Int), 0 ≤ s → (∀ y ∈ l, 0 ≤ y ∧ y ≤ B) → s + l.length * B ≤ 1000000000 → l.foldl plusW s = s + l.sum := by
  intro l
  induction l with
  | nil => intro s _ _ _; simp
  | cons a l ih =>
    intro s hs hl hb
    have ha := hl a (by simp)
    rw [List.length_cons] at hb
    have e : ((l.length + 1 : Nat) : Int) * B = l.length * B + B := by rw [Int.natCast_add, Int.add_mul]; simp
    rw [e] at hb
    have hnn : 0 ≤ (l.length : Int) * B := Int.mul_nonneg (by omega) hB
    rw [List.foldl_cons, List.sum_cons]
    have w : plusW s a = s + a := by unfold plusW wrap64; omega
    rw [w, ih (s + a) (by omega) (fun y hy => hl y (List.mem_cons_of_mem _ hy)) (by omega)]
    omega
theorem sum_le (l : List Nat) (f g : Nat → Int) (h : ∀ y ∈ l, f y ≤ g y) : (l.map f).sum ≤ (l.map g).sum := by
  induction l with
  | nil => simp
  | cons a l ih =>
    simp only [List.map_cons, List.sum_cons]
    have := h a (by simp)
    have := ih fun y hy => h y (by simp [hy])
    omega
theorem sum_bound (l : List Nat) (f : Nat → Int) (B : Int) (h : ∀ y ∈ l, 0 ≤ f y ∧ f y ≤ B) : 0 ≤ (l.map f).sum ∧ (l.map f).sum ≤ l.length * B := by
  induction l with
  | nil => simp
  | cons a l ih =>
    simp only [List.map_cons, List.sum_cons, List.length_cons]
    have := h a (by simp)
    have := ih fun y hy => h y (by simp [hy])
    have e : ((l.length + 1 : Nat) : Int) * B = l.length * B + B := by rw [Int.natCast_add, Int.add_mul]; simp
    rw [e]
    omega
theorem flat_sum (l : List Nat) (f : Nat → List Int) : ((l.map f).flatten.length : Int) = (l.map fun y => ((f y).length : Int)).sum := by
  induction l with
  | nil => rfl
  | cons a l ih => simp only [List.map_cons, List.flatten_cons, List.length_append, List.sum_cons, Int.natCast_add, ih]
theorem setL_le (L : List Int) : (setL L).length ≤ L.length := by
  have := compact_le (sortL L)
  rw [sortL_length] at this
  exact this
theorem pow7 : ∀ n : Fin 8, (7 : Int) ^ n.val ≤ 823543 ∧ 0 < (7 : Int) ^ n.val := by decide
/-- There are at least as many plays as last cells. -/
theorem plays_ge (L : List Int) : ∀ (k c : Nat), c < 128 → 128 - c ≤ k → wayB (c : Int) L = true →
    ((valC L lastF c).length : Int) ≤ valC L playsF c ∧ 0 ≤ valC L playsF c ∧ valC L playsF c ≤ 7 ^ (7 - cnt c) := by
  intro k
  induction k with
  | zero => intro c hc h; omega
  | succ k ih =>
    intro c hc hk hw
    have hmem : ∀ y, y ∈ litL L c → _ := fun y hy => ih y (litP_mem hc (Nat.le_refl 7) hy).2.1 (by have := (litP_mem hc (Nat.le_refl 7) hy).1; omega) (litP_mem hc (Nat.le_refl 7) hy).2.2
    have hcy : ∀ y, y ∈ litL L c → cnt y = cnt c + 1 := fun y hy => lit_cnt hc hy
    rw [valC_eq L lastF c hc, valC_eq L playsF c hc]
    by_cases h0 : litL L c = []
    · rw [h0]
      have : (0 : Int) < 7 ^ (7 - cnt c) := (pow7 ⟨7 - cnt c, by omega⟩).2
      simp only [List.map_nil]
      refine ⟨by simp [lastF, playsF], by simp [playsF], ?_⟩
      show (1 : Int) ≤ _
      omega
    · obtain ⟨y0, hy0⟩ := List.exists_mem_of_ne_nil _ h0
      have h7 := cnt_le7 y0
      have hy1 := hcy y0 hy0
      have hlen := litP_le L c 7
      change (litL L c).length ≤ 7 at hlen
      obtain ⟨n, hn⟩ : ∃ n, 7 - cnt c = n + 1 := ⟨6 - cnt c, by omega⟩
      have hp := pow7 ⟨n, by omega⟩
      simp only at hp
      have hb : ∀ y ∈ litL L c, 0 ≤ valC L playsF y ∧ valC L playsF y ≤ 7 ^ n := by
        intro y hy
        have h1 := hmem y hy
        have h2 := hcy y hy
        rw [show 7 - cnt y = n by omega] at h1
        exact h1.2
      have eP : playsF c ((litL L c).map (valC L playsF)) = ((litL L c).map (valC L playsF)).sum := by
        show (if _ = 0 then _ else _) = _
        rw [if_neg (by rw [List.length_map, List.length_eq_zero_iff]; exact h0)]
        unfold foldT
        have hm : ((litL L c).length : Int) * 823543 ≤ 7 * 823543 := Int.mul_le_mul_of_nonneg_right (by omega) (by omega)
        rw [foldPlus 823543 (by omega) _ 0 (by omega) (fun y hy => by
          obtain ⟨x, hx, rfl⟩ := List.mem_map.1 hy
          have := hb x hx
          omega) (by rw [List.length_map]; omega)]
        omega
      have eL : lastF c ((litL L c).map (valC L lastF)) = setL ((litL L c).map (valC L lastF)).flatten := by
        show (if _ = 0 then _ else _) = _
        rw [if_neg (by rw [List.length_map, List.length_eq_zero_iff]; exact h0)]
      rw [eP, eL, hn, Int.pow_succ]
      have h1 := setL_le ((litL L c).map (valC L lastF)).flatten
      have h2 := flat_sum (litL L c) (valC L lastF)
      have h3 := sum_le (litL L c) (fun y => ((valC L lastF y).length : Int)) (valC L playsF) (fun y hy => (hmem y hy).1)
      have h4 := sum_bound (litL L c) (valC L playsF) (7 ^ n) hb
      have hm : ((litL L c).length : Int) * 7 ^ n ≤ 7 * 7 ^ n := Int.mul_le_mul_of_nonneg_right (by omega) (by omega)
      rw [Int.mul_comm (7 ^ n) 7]
      refine ⟨by omega, by omega, by omega⟩
/-- A last cell is that of a digit of the goal. -/
theorem last_digit {L : List Int} {c x : Nat} (hD : allDig L) (h : x ∈ lastP L c 128) : ∃ d : Nat, d < 10 ∧ (d : Int) ∈ L ∧ x = digC d := by
  obtain ⟨hx, h⟩ := lastP_mem.1 h
  obtain ⟨_, hw, he⟩ := lastB_iff.1 h
  have hw' := hw
  unfold wayB at hw'
  rw [List.any_eq_true] at hw'
  obtain ⟨d, hd, h2⟩ := hw'
  rw [onP_sub x hx] at h2
  have hdd := hD d hd
  rw [inB_iff] at hdd
  obtain ⟨D, rfl⟩ := Int.eq_ofNat_of_zero_le hdd.1
  rw [Int.toNat_natCast] at h2
  refine ⟨D, by omega, hd, ?_⟩
  have hdl := digC_lt D
  by_cases e : digC D = x
  · exact e.symm
  · obtain ⟨b, hb1, hb2⟩ := bar_between ⟨x, hx⟩ ⟨digC D, hdl⟩ (by simpa [subB] using h2) (fun h => e (by simpa using h))
    have hl := lor_lt x b.val hx b.isLt
    have hway : wayB ((x ||| 2 ^ b.val : Nat) : Int) L = true := by
      unfold wayB
      rw [List.any_eq_true]
      exact ⟨(D : Int), hd, by rw [onP_sub _ hl, Int.toNat_natCast]; simpa [subB] using hb2⟩
    unfold endB at he
    rw [List.all_eq_true] at he
    have := he b.val (by simp [b.isLt])
    rw [show nextB L x b.val = true by simp only [nextB, Bool.and_eq_true, bne_iff_ne, ne_eq]; exact ⟨hb1, hway⟩] at this
    cases this
theorem xor_zero {a b : Nat} (h : a ^^^ b = 0) : a = b := by
  have := congrArg (· ^^^ b) h
  simpa [Nat.xor_assoc] using this
theorem nim0_of {L R : List Int} (hR : ∀ x ∈ R, inB 0 127 x = true) (h : movN R L true (R.length * 7) = 0) : nimN L R = 0 := by
  rcases Nat.eq_zero_or_pos (nimN L R) with h0 | h0
  · exact h0
  · obtain ⟨i, b, hi, hb, hq⟩ := nim_move L R hR (by omega)
    have := (movN_pos R L true (R.length * 7)).2 ⟨i * 7 + b, by omega, by rw [show (i * 7 + b) / 7 = i by omega, show (i * 7 + b) % 7 = b by omega]; exact hq⟩
    omega
/-- Who wins makes the last move. -/
theorem game_parity (L : List Int) : ∀ (k : Nat) (R : List Int), rowOk R L → mus R ≤ k → ((playG L k R).length / 2 % 2 = 1 ↔ nimN L R ≠ 0) := by
  intro k
  induction k with
  | zero =>
    intro R hR hm
    have hp : pickN R L = 0 := by
      rcases Nat.eq_zero_or_pos (pickN R L) with h | h
      · exact h
      · obtain ⟨i, b, C, _, _, _, _, _, _, _, _, _, h1, _⟩ := pick_facts hR (by omega); omega
    have h1 : movN R L true (R.length * 7) = 0 := by
      unfold pickN at hp
      split at hp
      · assumption
      · exact hp
    have := nim0_of (fun x hx => (hR x hx).1) h1
    simp [playG, this]
  | succ k ih =>
    intro R hR hm
    by_cases hp : pickN R L = 0
    · have h1 : movN R L true (R.length * 7) = 0 := by
        unfold pickN at hp
        split at hp
        · assumption
        · exact hp
      have := nim0_of (fun x hx => (hR x hx).1) h1
      rw [playG_stop L R (k + 1) hp, this]
      simp
    · obtain ⟨i, b, C, hi, hb, hC, hRi, e0, e1, hl, hnx, hok, hmus, _⟩ := pick_facts hR hp
      have ihh := ih (nextR R L) hok (by omega)
      have hlen : (playG L (k + 1) R).length = (playG L k (nextR R L)).length + 2 := by
        show (if pickN R L = 0 then _ else _ : List Int).length = _
        rw [if_neg hp]
        simp
      rw [hlen, show ((playG L k (nextR R L)).length + 2) / 2 % 2 = 1 ↔ ¬ ((playG L k (nextR R L)).length / 2 % 2 = 1) by omega, ihh, hnx, nim_set L R i _ hi, hRi]
      have hin : ∀ x ∈ R, inB 0 127 x = true := fun x hx => (hR x hx).1
      by_cases h1 : movN R L true (R.length * 7) = 0
      · have h0 := nim0_of hin h1
        have hpN : movN R L false (R.length * 7) ≠ 0 := by
          unfold pickN at hp
          rw [if_pos h1] at hp
          exact hp
        have hpF : pickF R L = movF R L false (R.length * 7) := by unfold pickF; rw [if_pos h1]
        obtain ⟨i', b', hb', _, hq, f0, f1⟩ := movF_head R L false _ hpN
        rw [hpF] at e0 e1
        have ei : i' = i := by omega
        have eb : b' = b := by omega
        subst ei eb
        have hn : nextB L C b' = true := by
          unfold movQ at hq
          simp only [Bool.and_eq_true] at hq
          have := hq.1
          rw [hRi, Int.toNat_natCast] at this
          exact this
        have hne := num_next L C b' hC hb' hn
        rw [h0]
        rw [Nat.zero_xor]
        exact ⟨fun h => absurd (fun e => hne (xor_zero e).symm) h, fun h => absurd rfl h⟩
      · have hpF : pickF R L = movF R L true (R.length * 7) := by unfold pickF; rw [if_neg h1]
        obtain ⟨i', b', hb', hlt, hq, f0, f1⟩ := movF_head R L true _ h1
        rw [hpF] at e0 e1
        have ei : i' = i := by omega
        have eb : b' = b := by omega
        subst ei eb
        have hne : nimN L R ≠ 0 := fun h => by
          rw [nim_none L R hin h i' b' hi hb'] at hq
          cases hq
        unfold movQ at hq
        simp only [Bool.and_eq_true, Bool.not_true, Bool.false_or, beq_iff_eq] at hq
        rw [hRi, Int.toNat_natCast] at hq
        rw [hq.2]
        simp [hne]
end Go.Proofs.YtcddfpbohejhhaaGreat
