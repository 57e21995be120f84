/- Contracts of the functions that tell which bars can be lit. -/
import Derived.Test.YtpcmlfohblglaabWay
import Derived.Lib.Hide
namespace Go.Proofs.Ytpcmlfohblglaab
open Go.RowKit

/-- A bar can be lit. -/
def nextB (L : List Int) (c bar : Nat) : Bool := ((c ||| 2 ^ bar) != c) && wayB ((c ||| 2 ^ bar : Nat) : Int) L
/-- The first k bars that can be lit, as a cell. -/
def maskP (p : Nat → Bool) : Nat → Nat
  | 0 => 0
  | k + 1 => if p k = true then maskP p k ||| 2 ^ k else maskP p k
theorem shl_fact (b : Nat) (hb : b < 7) : wrap64 (2 ^ b) = ((2 ^ b : Nat) : Int) := by
  have : ∀ x : Fin 7, wrap64 (2 ^ x.val) = ((2 ^ x.val : Nat) : Int) := by decide +kernel
  exact this ⟨b, hb⟩
theorem pow_lt (b : Nat) (hb : b < 7) : 2 ^ b < 128 := Nat.pow_lt_pow_right (a := 2) (n := 7) (by omega) hb
theorem lor_lt (c b : Nat) (hc : c < 128) (hb : b < 7) : c ||| 2 ^ b < 128 := Nat.or_lt_two_pow (n := 7) hc (pow_lt b hb)
theorem off_eq : ∀ c : Fin 128, ∀ b : Fin 7, ((c.val ||| 2 ^ b.val) != c.val) = (c.val / 2 ^ b.val % 2 == 0) := by decide +kernel
theorem maskP_lt (p : Nat → Bool) (k : Nat) : maskP p k < 2 ^ k := by
  induction k with
  | zero => simp [maskP]
  | succ k ih =>
    unfold maskP
    have h2 : 2 ^ k < 2 ^ (k + 1) := Nat.pow_lt_pow_right (by omega) (by omega)
    split
    · exact Nat.or_lt_two_pow (by omega) h2
    · omega
theorem maskP_bits : ∀ b0 b1 b2 b3 b4 b5 b6 : Bool, ∀ k : Fin 7,
    ((maskP (fun i => [b0, b1, b2, b3, b4, b5, b6].getD i false) 7) / 2 ^ k.val % 2 == 1) = [b0, b1, b2, b3, b4, b5, b6].getD k.val false := by decide +kernel
theorem maskP_congr (p q : Nat → Bool) (k : Nat) (h : ∀ i, i < k → p i = q i) : maskP p k = maskP q k := by
  induction k with
  | zero => rfl
  | succ k ih => unfold maskP; rw [ih fun i hi => h i (by omega), h k (by omega)]
/-- The bars of the mask are those of which p says so. -/
theorem maskP_bit (p : Nat → Bool) (k : Nat) (hk : k < 7) : (maskP p 7 / 2 ^ k % 2 == 1) = p k := by
  have hq : ∀ i, i < 7 → p i = [p 0, p 1, p 2, p 3, p 4, p 5, p 6].getD i false := by
    intro i hi
    match i, hi with
    | 0, _ => rfl
    | 1, _ => rfl
    | 2, _ => rfl
    | 3, _ => rfl
    | 4, _ => rfl
    | 5, _ => rfl
    | 6, _ => rfl
  rw [maskP_congr p _ 7 hq, maskP_bits _ _ _ _ _ _ _ ⟨k, hk⟩, ← hq k hk]

theorem l11Next_any (c bar : Nat) (hc : c < 128) (hb : bar < 7) (ao : Option Addr) (n cap : Nat) (L : List Int) (w : World) (hr : RdI w ao L) (hn : L.length = n) (hm : n ≤ maxLen) (hD : allDig L) :
    Calls Try.prog 41 #[.int .i64 c, .int .i64 bar, .slice ao n cap] w fun e w' => e = .returned (.tuple #[.int .i64 ((c ||| 2 ^ bar : Nat) : Int), .bool (nextB L c bar)]) ∧ Below w.heap.size w w' := by
  have hs := shl_fact bar hb
  have hp := pow_lt bar hb
  have hx := or64 c (2 ^ bar) (by omega) (by omega)
  have hl := lor_lt c bar hc hb
  have hin : inB 0 127 ((c ||| 2 ^ bar : Nat) : Int) = true := by rw [inB_iff]; omega
  have hne : (((c ||| 2 ^ bar : Nat) : Int) != (c : Int)) = ((c ||| 2 ^ bar) != c) := by
    rw [Bool.eq_iff_iff]; simp only [bne_iff_ne, ne_eq]; omega
  unfold nextB
  generalize (2 ^ bar : Nat) = m at hs hp hx hl hin hne ⊢
  generalize (c ||| m) = d at hx hl hin hne ⊢
  generalize hq : (d != c) = q at hne ⊢
  have HQ := Lib.hid hq
  clear hq
  rcases q with _ | _
  all_goals
    go_enter Try.func41, Try.ntmps41
    go_wp2_with (go_at_call 47; refine (l11Way_any _ hin _ _ _ L _ hr hn hm hD).mono ?_; rintro e w1 ⟨rfl, hb1⟩)
    go_ret2
    first | exact ⟨rfl, hb1⟩ | exact ⟨rfl, Below.refl _ _⟩

/-- The bars that can be lit, as a cell. -/
def lightM (L : List Int) (c : Nat) : Nat := maskP (nextB L c) 7
theorem lightM_lt (L : List Int) (c : Nat) : lightM L c < 128 := maskP_lt _ 7
theorem bit_fact (c k : Nat) (hc : c < 4611686018427387904) : bits .and .i64 ((c : Int) / 2 ^ k) 1 = ((c / 2 ^ k % 2 : Nat) : Int) := by
  have h1 : c / 2 ^ k ≤ c := Nat.div_le_self _ _
  have e : ((c : Int) / 2 ^ k) = ((c / 2 ^ k : Nat) : Int) := by simp
  rw [e, show (1 : Int) = ((1 : Nat) : Int) from rfl, and64 _ _ (by omega) (by omega), Nat.and_one_is_mod]
set_option maxHeartbeats 400000 in
theorem lightable_any (c : Nat) (hc : c < 128) (ao : Option Addr) (n cap : Nat) (L : List Int) (w : World) (hr : RdI w ao L) (hn : L.length = n) (hm : n ≤ maxLen) (hD : allDig L) :
    Calls Try.prog 40 #[.int .i64 c, .slice ao n cap] w fun e w' => e = .returned (.int .i64 (lightM L c)) ∧ Below w.heap.size w w' := by
  have HD := Lib.hid hD
  have HN := Lib.hid hn
  clear hD hn
  go_enter Try.func40, Try.ntmps40
  go_wp2
  go_loopw [5, 7] (fun o i wr => ∃ k : Nat, k ≤ 7 ∧ i = .int .i64 k ∧ o = .int .i64 (maskP (nextB L c) k) ∧ Below w.heap.size w wr) (fun _ i _ => 7 - (intOf i).toNat)
  case atStart => exact ⟨0, by omega, rfl, rfl, Below.refl _ _⟩
  case round =>
    obtain ⟨k, hle, rfl, rfl, hbw⟩ := hrel
    by_cases hlt : k < 7
    · have hs := shl_fact k hlt
      have hp := pow_lt k hlt
      have hM := Nat.lt_of_lt_of_le (maskP_lt (nextB L c) k) (Nat.pow_le_pow_right (n := 2) (by omega) hle)
      have hx := or64 c (2 ^ k) (by omega) (by omega)
      have hx2 := or64 (maskP (nextB L c) k) (2 ^ k) (by omega) (by omega)
      have hin : inB 0 127 ((c ||| 2 ^ k : Nat) : Int) = true := by have := lor_lt c k hc hlt; rw [inB_iff]; omega
      have hbit := bit_fact c k (by omega)
      have hoff := off_eq ⟨c, hc⟩ ⟨k, hlt⟩
      have hsucc : maskP (nextB L c) (k + 1) = if nextB L c k = true then maskP (nextB L c) k ||| 2 ^ k else maskP (nextB L c) k := rfl
      have hnx : nextB L c k = ((c ||| 2 ^ k) != c && wayB ((c ||| 2 ^ k : Nat) : Int) L) := rfl
      have hcond : ((((c / 2 ^ k % 2 : Nat) : Int)) == 0) = (c / 2 ^ k % 2 == 0) := by rw [Bool.eq_iff_iff]; simp only [beq_iff_eq]; omega
      simp only at hoff
      rw [← hoff] at hcond
      rw [hnx] at hsucc
      generalize maskP (nextB L c) k = M at hM hx2 hsucc ⊢
      generalize hq : ((c ||| 2 ^ k) != c) = q at hcond hsucc
      generalize (2 ^ k : Nat) = m at *
      generalize (c ||| m) = d at *
      generalize (c / m % 2 : Nat) = bb at *
      clear hq hoff hnx
      generalize ht : wayB (d : Int) L = t at hsucc
      have HT := Lib.hid ht
      clear ht
      have HS := Lib.hid hsucc
      clear hsucc
      rcases q with _ | _
      · go_wp2
        go_roundw
        case rel => exact ⟨k + 1, by omega, by go_num, by rw [HS.out]; rfl, hbw⟩
        case measure => simp [intOf]; omega
      · rcases t with _ | _
        all_goals
          go_wp2_with (go_at_call 44; refine (isOnWay_any _ _ _ _ L _ (RdI_below hr hbw) HN.out hm HD.out).mono ?_; rw [HT.out]; rintro e w1 ⟨rfl, hb1⟩)
          go_roundw
          case rel => exact ⟨k + 1, by omega, by go_num, by rw [HS.out]; rfl, belowThen hbw hb1⟩
          case measure => simp [intOf]; omega
    · have hk : k = 7 := by omega
      subst hk
      go_wp2
      go_ret
      exact ⟨rfl, hbw⟩

/-- The letters of the first k bars of which p says so. -/
def lettersP (p : Nat → Bool) : Nat → ByteArray
  | 0 => ⟨#[]⟩
  | k + 1 => if p k = true then lettersP p k ++ (⟨#[97, 98, 99, 100, 101, 102, 103]⟩ : ByteArray).extract k (k + 1) else lettersP p k
theorem lettersP_congr (p q : Nat → Bool) (k : Nat) (h : ∀ i, i < k → p i = q i) : lettersP p k = lettersP q k := by
  induction k with
  | zero => rfl
  | succ k ih => unfold lettersP; rw [ih fun i hi => h i (by omega), h k (by omega)]
theorem lettersP_size (p : Nat → Bool) (k : Nat) : (lettersP p k).size ≤ k := by
  induction k with
  | zero => exact Nat.le_refl _
  | succ k ih =>
    unfold lettersP
    split
    · rw [ByteArray.size_append, ByteArray.size_extract]; omega
    · omega
theorem barsOf_any (c : Nat) (hc : c < 128) (w : World) : Calls Try.prog 39 #[.int .i64 c] w
    fun e w' => e = .returned (.string (lettersP (fun k => c / 2 ^ k % 2 == 1) 7)) ∧ w = w' := by
  go_enter Try.func39, Try.ntmps39
  go_wp2
  go_loop [3, 5] (fun s i => ∃ k : Nat, k ≤ 7 ∧ i = .int .i64 k ∧ s = .string (lettersP (fun k => c / 2 ^ k % 2 == 1) k)) (fun _ i => 7 - (intOf i).toNat)
  case atStart => exact ⟨0, by omega, rfl, rfl⟩
  case round =>
    obtain ⟨k, hle, rfl, rfl⟩ := hrel
    by_cases hlt : k < 7
    · have hbit := bit_fact c k (by omega)
      have hsz := lettersP_size (fun k => c / 2 ^ k % 2 == 1) k
      have hsucc : lettersP (fun k => c / 2 ^ k % 2 == 1) (k + 1) = if (c / 2 ^ k % 2 == 1) = true then lettersP (fun k => c / 2 ^ k % 2 == 1) k ++ (⟨#[97, 98, 99, 100, 101, 102, 103]⟩ : ByteArray).extract k (k + 1) else lettersP (fun k => c / 2 ^ k % 2 == 1) k := rfl
      have hcond : ((((c / 2 ^ k % 2 : Nat) : Int)) == 1) = (c / 2 ^ k % 2 == 1) := by rw [Bool.eq_iff_iff]; simp only [beq_iff_eq]; omega
      generalize lettersP (fun k => c / 2 ^ k % 2 == 1) k = S at hsz hsucc ⊢
      generalize (c / 2 ^ k % 2 : Nat) = bb at hbit hsucc hcond
      generalize hq : (bb == 1) = q at hsucc hcond
      clear hq
      have HS := Lib.hid hsucc
      clear hsucc
      rcases q with _ | _
      · go_wp2
        go_round
        case rel => exact ⟨k + 1, by omega, by go_num, by rw [HS.out]; rfl⟩
        case measure => simp [intOf]; omega
      · go_wp2
        go_round
        case rel => exact ⟨k + 1, by omega, by go_num, by rw [HS.out]; rfl⟩
        case measure => simp [intOf]; omega
    · have hk : k = 7 := by omega
      subst hk
      go_wp2
      go_ret
      exact ⟨rfl, rfl⟩

/-- The goal and the cell are valid, and the cell is on the way. -/
def playB (c : Int) (L : List Int) (n : Nat) : Bool := onOk c L n && wayB c L
theorem playB_on {c : Int} {L : List Int} {n : Nat} (h : playB c L n = true) : allDig L ∧ inB 0 127 c = true := by
  unfold playB at h
  simp only [Bool.and_eq_true] at h
  refine ⟨onOk_dig h.1, ?_⟩
  have := h.1
  unfold onOk at this
  simp only [Bool.and_eq_true] at this
  exact this.2
theorem l11Good_any (c : Int) (ao : Option Addr) (n cap : Nat) (L : List Int) (w : World) (hr : RdI w ao L) (hn : L.length = n) (hm : n ≤ maxLen) (hcap : n ≤ cap) :
    Calls Try.prog 37 #[.int .i64 c, .slice ao n cap] w fun e w' => e = .returned (.bool (playB c L n)) ∧ Below w.heap.size w w' := by
  unfold playB
  generalize ho : onOk c L n = o
  have HO := Lib.hid ho
  have ho2 := ho
  unfold onOk at ho2
  generalize hg : (orderB L && decide (0 < n)) = g at ho2
  generalize hi : inB 0 127 c = i at ho2
  have HG := Lib.hid hg
  have HI := Lib.hid hi
  clear hg hi ho
  subst ho2
  have HN := Lib.hid hn
  clear hn
  rcases g with _ | _
  · go_enter Try.func37, Try.ntmps37
    go_wp2_with (first | (go_at_call 45; refine (l11Goal_any _ _ _ L _ hr HN.out hm hcap).mono ?_; rw [HG.out]; rintro e w1 ⟨rfl, hb1⟩))
    go_ret
    exact ⟨rfl, hb1⟩
  · rcases i with _ | _
    · go_enter Try.func37, Try.ntmps37
      go_wp2_with (first | (go_at_call 45; refine (l11Goal_any _ _ _ L _ hr HN.out hm hcap).mono ?_; rw [HG.out]; rintro e w1 ⟨rfl, hb1⟩) | (go_at_call 46; refine (l2Cell_any _ _).mono ?_; rw [HI.out]; rintro e w' ⟨rfl, rfl⟩))
      go_ret
      exact ⟨rfl, hb1⟩
    · have HD := Lib.hid (onOk_dig HO.out)
      go_enter Try.func37, Try.ntmps37
      go_wp2_with (first | (go_at_call 45; refine (l11Goal_any _ _ _ L _ hr HN.out hm hcap).mono ?_; rw [HG.out]; rintro e w1 ⟨rfl, hb1⟩) | (go_at_call 46; refine (l2Cell_any _ _).mono ?_; rw [HI.out]; rintro e w' ⟨rfl, rfl⟩) | (go_at_call 47; refine (l11Way_any c HI.out _ _ _ L _ (RdI_below hr hb1) HN.out hm HD.out).mono ?_; rintro e w2 ⟨rfl, hb2⟩))
      go_ret
      exact ⟨rfl, belowThen hb1 hb2⟩
theorem isPlayable_any (c : Int) (ao : Option Addr) (n cap : Nat) (L : List Int) (w : World) (hr : RdI w ao L) (hn : L.length = n) (hm : n ≤ maxLen) (hcap : n ≤ cap) :
    Calls Try.prog 38 #[.int .i64 c, .slice ao n cap] w fun e w' => e = .returned (.bool (playB c L n)) ∧ Below w.heap.size w w' := by
  unfold playB
  generalize ho : onOk c L n = o
  have HO := Lib.hid ho
  have ho2 := ho
  unfold onOk at ho2
  generalize hg : (orderB L && decide (0 < n)) = g at ho2
  generalize hi : inB 0 127 c = i at ho2
  have HG := Lib.hid hg
  have HI := Lib.hid hi
  clear hg hi ho
  subst ho2
  have HN := Lib.hid hn
  clear hn
  rcases g with _ | _
  · go_enter Try.func38, Try.ntmps38
    go_wp2_with (first | (go_at_call 20; refine (IsGoalI_any _ _ _ L _ hr HN.out hm hcap).mono ?_; rw [HG.out]; rintro e w' ⟨rfl, rfl⟩))
    go_ret
    exact ⟨rfl, Below.refl _ _⟩
  · rcases i with _ | _
    · go_enter Try.func38, Try.ntmps38
      go_wp2_with (first | (go_at_call 20; refine (IsGoalI_any _ _ _ L _ hr HN.out hm hcap).mono ?_; rw [HG.out]; rintro e w' ⟨rfl, rfl⟩) | (go_at_call 43; refine (IsCell_any _ _).mono ?_; rw [HI.out]; rintro e w' ⟨rfl, rfl⟩))
      go_ret
      exact ⟨rfl, Below.refl _ _⟩
    · have HD := Lib.hid (onOk_dig HO.out)
      go_enter Try.func38, Try.ntmps38
      go_wp2_with (first | (go_at_call 20; refine (IsGoalI_any _ _ _ L _ hr HN.out hm hcap).mono ?_; rw [HG.out]; rintro e w' ⟨rfl, rfl⟩) | (go_at_call 43; refine (IsCell_any _ _).mono ?_; rw [HI.out]; rintro e w' ⟨rfl, rfl⟩) | (go_at_call 44; refine (isOnWay_any c _ _ _ L _ hr HN.out hm HD.out).mono ?_; rintro e w2 ⟨rfl, hb2⟩))
      go_ret
      exact ⟨rfl, hb2⟩
end Go.Proofs.Ytpcmlfohblglaab
