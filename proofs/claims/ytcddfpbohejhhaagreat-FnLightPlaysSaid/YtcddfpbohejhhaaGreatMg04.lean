/- Joined texts: Way, Light, Lit. -/
import Derived.Test.YtcddfpbohejhhaaGreatMg02
import Derived.Test.YtcddfpbohejhhaaGreatMg03
import Derived.Lib.Hide
import Derived.Deep.RegionHeld3
namespace Go.Proofs.YtcddfpbohejhhaaGreat
open Go.RowKit

/-- All bars of a cell light in the cell of a digit. -/
def onP (c x : Int) : Bool := (bits .andNot .i64 c (digC x.toNat) == 0)
/-- A cell is on the way to a goal. -/
def wayB (c : Int) (L : List Int) : Bool := L.any (onP c)
/-- All numbers of a list are digits. -/
def allDig (L : List Int) : Prop := ∀ x ∈ L, inB 0 9 x = true
theorem orderB_dig {L : List Int} (h : orderB L = true) : allDig L := by
  intro x hx
  obtain ⟨i, hi, rfl⟩ := List.getElem_of_mem hx
  have := okP_le h (show i + 1 ≤ L.length by omega)
  rw [okP_succ, Bool.and_eq_true] at this
  have h2 := this.2
  simp only [okAt, Bool.and_eq_true] at h2
  have e : L.getD i 0 = L[i] := by simp [hi]
  rw [e] at h2
  exact h2.1
theorem and_full : ∀ a : Fin 128, ∀ b : Fin 128, ((a.val &&& b.val) == a.val) = ((a.val &&& (18446744073709551615 - b.val)) == 0) := by decide +kernel
theorem on_eq {c : Int} (hc : inB 0 127 c = true) (d : Nat) : (bits .and .i64 c (digC d) == c) = (bits .andNot .i64 c (digC d) == 0) := by
  rw [inB_iff] at hc
  obtain ⟨C, rfl⟩ := Int.eq_ofNat_of_zero_le hc.1
  have hd := digC_lt d
  have := and_full ⟨C, by omega⟩ ⟨digC d, hd⟩
  simp only at this
  rw [and64 _ _ (by omega) (by omega), andNot64 _ _ (by omega) (by omega)]
  rw [Bool.eq_iff_iff] at this ⊢
  simp only [beq_iff_eq] at this ⊢
  omega
theorem mem_getD {L : List Int} {k : Nat} (h : k < L.length) : L.getD k 0 ∈ L := by
  have : L.getD k 0 = L[k] := by simp [h]
  rw [this]; exact List.getElem_mem _

set_option maxHeartbeats 400000 in
theorem l11Way_any (c : Int) (hc : inB 0 127 c = true) (ao : Option Addr) (n cap : Nat) (L : List Int) (w : World) (hr : RdI w ao L) (hn : L.length = n) (hm : n ≤ maxLen) (hD : allDig L) :
    Calls Tryz.prog 33 #[.int .i64 c, .slice ao n cap] w fun e w' => e = .returned (.bool (wayB c L)) ∧ Below w.heap.size w w' := by
  unfold maxLen at hm
  obtain ⟨R, hR⟩ : ∃ R, wayB c L = R := ⟨_, rfl⟩
  rw [hR]
  have hA1 := @cellAlloc; have hA2 := @frozenAlloc; have hA3 := @setCellAlloc; go_enter Tryz.func33, Tryz.ntmps33
  go_wp2
  go_loopw [5] (fun i wr => ∃ k : Nat, k ≤ n ∧ i = .int .i64 k ∧ (L.drop k).any (onP c) = R ∧ Below w.heap.size w wr) (fun i _ => n - (intOf i).toNat)
  case atStart => exact ⟨0, by omega, rfl, by simpa [wayB] using hR, Below.refl _ _⟩
  case round =>
    obtain ⟨k, hle, rfl, hd, hbw⟩ := hrel
    by_cases hlt : k < n
    · have hrr := RdI_below hr hbw
      rcases hrr with h | ⟨b1, o1, rfl, hb1, hc1⟩
      · rw [h] at hn; simp at hn; omega
      have hx := hc1 k (by omega)
      have hy := hD _ (mem_getD (show k < L.length by omega))
      rw [drop_cons L k (by omega), List.any_cons] at hd
      generalize L.getD k 0 = y at hx hd hy
      rw [inB_iff] at hy
      obtain ⟨d, rfl⟩ := Int.eq_ofNat_of_zero_le hy.1
      have hd10 : d < 10 := by omega
      have he := on_eq hc d
      simp only [onP, Int.toNat_natCast] at hd
      rw [← he] at hd
      generalize ht : (bits .and .i64 c (digC d) == c) = t at hd
      clear hc1 hR hn hr he hy hD
      rcases t with _ | _
      · rw [Bool.false_or] at hd
        have HD := Lib.hid hd
        clear hd
        go_wp2_with (go_at_call 71; refine (l2Digit_any d hd10 _).mono ?_; rintro e w1 ⟨rfl, hb2⟩)
        go_roundw
        case rel => exact ⟨k + 1, by omega, by go_num, HD.out, belowThen hbw hb2⟩
        case measure => simp [intOf]; omega
      · rw [Bool.true_or] at hd
        subst hd
        go_wp2_with (go_at_call 71; refine (l2Digit_any d hd10 _).mono ?_; rintro e w1 ⟨rfl, hb2⟩)
        go_ret
        exact ⟨rfl, belowThen hbw hb2⟩
    · have hkn : k = n := by omega
      subst hkn
      rw [List.drop_eq_nil_of_le (by omega)] at hd
      simp only [List.any_nil] at hd
      subst hd
      clear hR hn
      go_wp2
      go_ret
      exact ⟨rfl, hbw⟩

theorem enters_way : Enters 104 := fun _ _ => by simp [go_sem, Tryz.func104]
theorem wayFn_any (c : Int) (d : Nat) (hd : d < 10) (b : Nat) (w : World) (hb : b < w.heap.size) (hcell : w.cell? ⟨b, 0, none⟩ = some (.int .i64 c)) :
    Calls Tryz.prog 104 #[.int .i64 d, .pointer (some ⟨b, 0, none⟩)] w fun e w' => e = .returned (.bool (onP c d)) ∧ Below w.heap.size w w' := by
  have hdg := digAgg d hd
  have hA1 := @cellAlloc; have hA2 := @frozenAlloc; have hA3 := @setCellAlloc; go_enter Tryz.func104, Tryz.ntmps104
  go_wp2_with fail
  go_region_held3 (fun w' => w'.cell? ⟨b, 0, none⟩ = some (.int .i64 c) ∧ Below w.heap.size w w') (first | assumption | exact ⟨hcell, (Below.refl _ _).drew⟩ | exact boxKeep1 hb ‹_› ‹_›) (first | (go_at_call 82; refine (digitCells_any _).mono ?_; rintro e w1 ⟨rfl, hb1⟩))
  rename_i hH
  go_wp2
  go_ret
  exact ⟨ret_bool (by simp [onP]), hH.2⟩
theorem isOnWay_any (c : Int) (ao : Option Addr) (n cap : Nat) (L : List Int) (w : World) (hr : RdI w ao L) (hn : L.length = n) (hm : n ≤ maxLen) (hD : allDig L) :
    Calls Tryz.prog 79 #[.int .i64 c, .slice ao n cap] w fun e w' => e = .returned (.bool (wayB c L)) ∧ Below w.heap.size w w' := by
  have hmf : ∀ (fn : Fn) (first cap : Array Value) (w : World), (Instr.makeFunc fn first cap).run Tryz.prog w = .ok (.func fn first cap) w := fun _ _ _ _ => rfl
  have hT : Tells 104 (.pointer (some ⟨w.heap.size, 0, none⟩)) (onP c) L (w.alloc (.cells #[.int .i64 c] 3)) := by
    intro x W hx hbW
    have hy := hD x hx
    rw [inB_iff] at hy
    obtain ⟨d, rfl⟩ := Int.eq_ofNat_of_zero_le hy.1
    refine wayFn_any c d (by omega) w.heap.size W (by have := hbW.size; simp at this; omega) ?_
    rw [hbW.cell (p := ⟨w.heap.size, 0, none⟩) (by simp)]
    exact World.cell?_alloc_at _ _ _ _ rfl
  have HT := Lib.hid hT
  clear hT
  have hA1 := @cellAlloc; have hA2 := @frozenAlloc; have hA3 := @setCellAlloc; go_enter Tryz.func79, Tryz.ntmps79
  go_wp2_with (go_at_call 80; refine (ContainsFunc_any _ _ _ _ _ _ L _ (RdI_below hr (Go.Joins.below_alloc1 _ _)) hn hm HT.out enters_way).mono ?_; rintro e w1 ⟨rfl, hb1⟩)
  go_ret
  exact ⟨rfl, belowThen (Go.Joins.below_alloc1 _ _) hb1⟩
/-- The goal and the cell are valid. -/
def onOk (c : Int) (L : List Int) (n : Nat) : Bool := (orderB L && decide (0 < n)) && inB 0 127 c
theorem onOk_dig {c : Int} {L : List Int} {n : Nat} (h : onOk c L n = true) : allDig L := orderB_dig (by unfold onOk at h; simp only [Bool.and_eq_true] at h; exact h.1.1)
end Go.Proofs.YtcddfpbohejhhaaGreat

namespace Go.Proofs.YtcddfpbohejhhaaGreat
open Go.RowKit

/-- A bar can be lit. -/
def nextB (L : List Int) (c bar : Nat) : Bool := ((c ||| 2 ^ bar) != c) && wayB ((c ||| 2 ^ bar : Nat) : Int) L
/-- The first k bars that can be lit, as a cell. -/
def maskP (p : Nat → Bool) : Nat → Nat
  | 0 => 0
  | k + 1 => if p k = true then maskP p k ||| 2 ^ k else maskP p k
theorem shl_fact (b : Nat) (hb : b < 7) : wrap64 (2 ^ b) = ((2 ^ b : Nat) : Int) := by
  have : ∀ x : Fin 7, wrap64 (2 ^ x.val) = ((2 ^ x.val : Nat) : Int) := by decide +kernel
  exact this ⟨b, hb⟩
theorem pow_lt (b : Nat) (hb : b < 7) : 2 ^ b < 128 := Nat.pow_lt_pow_right (a := 2) (n := 7) (by omega) hb
theorem lor_lt (c b : Nat) (hc : c < 128) (hb : b < 7) : c ||| 2 ^ b < 128 := Nat.or_lt_two_pow (n := 7) hc (pow_lt b hb)
theorem off_eq : ∀ c : Fin 128, ∀ b : Fin 7, ((c.val ||| 2 ^ b.val) != c.val) = (c.val / 2 ^ b.val % 2 == 0) := by decide +kernel
theorem maskP_lt (p : Nat → Bool) (k : Nat) : maskP p k < 2 ^ k := by
  induction k with
  | zero => simp [maskP]
  | succ k ih =>
    unfold maskP
    have h2 : 2 ^ k < 2 ^ (k + 1) := Nat.pow_lt_pow_right (by omega) (by omega)
    split
    · exact Nat.or_lt_two_pow (by omega) h2
    · omega
theorem maskP_bits : ∀ b0 b1 b2 b3 b4 b5 b6 : Bool, ∀ k : Fin 7,
    ((maskP (fun i => [b0, b1, b2, b3, b4, b5, b6].getD i false) 7) / 2 ^ k.val % 2 == 1) = [b0, b1, b2, b3, b4, b5, b6].getD k.val false := by decide +kernel
theorem maskP_congr (p q : Nat → Bool) (k : Nat) (h : ∀ i, i < k → p i = q i) : maskP p k = maskP q k := by
  induction k with
  | zero => rfl
  | succ k ih => unfold maskP; rw [ih fun i hi => h i (by omega), h k (by omega)]
/-- The bars of the mask are those of which p says so. -/
theorem maskP_bit (p : Nat → Bool) (k : Nat) (hk : k < 7) : (maskP p 7 / 2 ^ k % 2 == 1) = p k := by
  have hq : ∀ i, i < 7 → p i = [p 0, p 1, p 2, p 3, p 4, p 5, p 6].getD i false := by
    intro i hi
    match i, hi with
    | 0, _ => rfl
    | 1, _ => rfl
    | 2, _ => rfl
    | 3, _ => rfl
    | 4, _ => rfl
    | 5, _ => rfl
    | 6, _ => rfl
  rw [maskP_congr p _ 7 hq, maskP_bits _ _ _ _ _ _ _ ⟨k, hk⟩, ← hq k hk]

theorem l11Next_any (c bar : Nat) (hc : c < 128) (hb : bar < 7) (ao : Option Addr) (n cap : Nat) (L : List Int) (w : World) (hr : RdI w ao L) (hn : L.length = n) (hm : n ≤ maxLen) (hD : allDig L) :
    Calls Tryz.prog 73 #[.int .i64 c, .int .i64 bar, .slice ao n cap] w fun e w' => e = .returned (.tuple #[.int .i64 ((c ||| 2 ^ bar : Nat) : Int), .bool (nextB L c bar)]) ∧ Below w.heap.size w w' := by
  have hs := shl_fact bar hb
  have hp := pow_lt bar hb
  have hx := or64 c (2 ^ bar) (by omega) (by omega)
  have hl := lor_lt c bar hc hb
  have hin : inB 0 127 ((c ||| 2 ^ bar : Nat) : Int) = true := by rw [inB_iff]; omega
  have hne : (((c ||| 2 ^ bar : Nat) : Int) != (c : Int)) = ((c ||| 2 ^ bar) != c) := by
    rw [Bool.eq_iff_iff]; simp only [bne_iff_ne, ne_eq]; omega
  unfold nextB
  generalize (2 ^ bar : Nat) = m at hs hp hx hl hin hne ⊢
  generalize (c ||| m) = d at hx hl hin hne ⊢
  generalize hq : (d != c) = q at hne ⊢
  have HQ := Lib.hid hq
  clear hq
  rcases q with _ | _
  all_goals
    go_enter Tryz.func73, Tryz.ntmps73
    go_wp2_with (go_at_call 33; refine (l11Way_any _ hin _ _ _ L _ hr hn hm hD).mono ?_; rintro e w1 ⟨rfl, hb1⟩)
    go_ret2
    first | exact ⟨rfl, hb1⟩ | exact ⟨rfl, Below.refl _ _⟩

/-- The bars that can be lit, as a cell. -/
def lightM (L : List Int) (c : Nat) : Nat := maskP (nextB L c) 7
theorem lightM_lt (L : List Int) (c : Nat) : lightM L c < 128 := maskP_lt _ 7
theorem bit_fact (c k : Nat) (hc : c < 4611686018427387904) : bits .and .i64 ((c : Int) / 2 ^ k) 1 = ((c / 2 ^ k % 2 : Nat) : Int) := by
  have h1 : c / 2 ^ k ≤ c := Nat.div_le_self _ _
  have e : ((c : Int) / 2 ^ k) = ((c / 2 ^ k : Nat) : Int) := by simp
  rw [e, show (1 : Int) = ((1 : Nat) : Int) from rfl, and64 _ _ (by omega) (by omega), Nat.and_one_is_mod]
set_option maxHeartbeats 400000 in
theorem lightable_any (c : Nat) (hc : c < 128) (ao : Option Addr) (n cap : Nat) (L : List Int) (w : World) (hr : RdI w ao L) (hn : L.length = n) (hm : n ≤ maxLen) (hD : allDig L) :
    Calls Tryz.prog 90 #[.int .i64 c, .slice ao n cap] w fun e w' => e = .returned (.int .i64 (lightM L c)) ∧ Below w.heap.size w w' := by
  have HD := Lib.hid hD
  have HN := Lib.hid hn
  clear hD hn
  go_enter Tryz.func90, Tryz.ntmps90
  go_wp2
  go_loopw [5, 7] (fun o i wr => ∃ k : Nat, k ≤ 7 ∧ i = .int .i64 k ∧ o = .int .i64 (maskP (nextB L c) k) ∧ Below w.heap.size w wr) (fun _ i _ => 7 - (intOf i).toNat)
  case atStart => exact ⟨0, by omega, rfl, rfl, Below.refl _ _⟩
  case round =>
    obtain ⟨k, hle, rfl, rfl, hbw⟩ := hrel
    by_cases hlt : k < 7
    · have hs := shl_fact k hlt
      have hp := pow_lt k hlt
      have hM := Nat.lt_of_lt_of_le (maskP_lt (nextB L c) k) (Nat.pow_le_pow_right (n := 2) (by omega) hle)
      have hx := or64 c (2 ^ k) (by omega) (by omega)
      have hx2 := or64 (maskP (nextB L c) k) (2 ^ k) (by omega) (by omega)
      have hin : inB 0 127 ((c ||| 2 ^ k : Nat) : Int) = true := by have := lor_lt c k hc hlt; rw [inB_iff]; omega
      have hbit := bit_fact c k (by omega)
      have hoff := off_eq ⟨c, hc⟩ ⟨k, hlt⟩
      have hsucc : maskP (nextB L c) (k + 1) = if nextB L c k = true then maskP (nextB L c) k ||| 2 ^ k else maskP (nextB L c) k := rfl
      have hnx : nextB L c k = ((c ||| 2 ^ k) != c && wayB ((c ||| 2 ^ k : Nat) : Int) L) := rfl
      have hcond : ((((c / 2 ^ k % 2 : Nat) : Int)) == 0) = (c / 2 ^ k % 2 == 0) := by rw [Bool.eq_iff_iff]; simp only [beq_iff_eq]; omega
      simp only at hoff
      rw [← hoff] at hcond
      rw [hnx] at hsucc
      generalize maskP (nextB L c) k = M at hM hx2 hsucc ⊢
      generalize hq : ((c ||| 2 ^ k) != c) = q at hcond hsucc
      generalize (2 ^ k : Nat) = m at *
      generalize (c ||| m) = d at *
      generalize (c / m % 2 : Nat) = bb at *
      clear hq hoff hnx
      generalize ht : wayB (d : Int) L = t at hsucc
      have HT := Lib.hid ht
      clear ht
      have HS := Lib.hid hsucc
      clear hsucc
      rcases q with _ | _
      · go_wp2
        go_roundw
        case rel => exact ⟨k + 1, by omega, by go_num, by rw [HS.out]; rfl, hbw⟩
        case measure => simp [intOf]; omega
      · rcases t with _ | _
        all_goals
          go_wp2_with (go_at_call 79; refine (isOnWay_any _ _ _ _ L _ (RdI_below hr hbw) HN.out hm HD.out).mono ?_; rw [HT.out]; rintro e w1 ⟨rfl, hb1⟩)
          go_roundw
          case rel => exact ⟨k + 1, by omega, by go_num, by rw [HS.out]; rfl, belowThen hbw hb1⟩
          case measure => simp [intOf]; omega
    · have hk : k = 7 := by omega
      subst hk
      go_wp2
      go_ret
      exact ⟨rfl, hbw⟩

/-- The letters of the first k bars of which p says so. -/
def lettersP (p : Nat → Bool) : Nat → ByteArray
  | 0 => ⟨#[]⟩
  | k + 1 => if p k = true then lettersP p k ++ (⟨#[97, 98, 99, 100, 101, 102, 103]⟩ : ByteArray).extract k (k + 1) else lettersP p k
theorem lettersP_congr (p q : Nat → Bool) (k : Nat) (h : ∀ i, i < k → p i = q i) : lettersP p k = lettersP q k := by
  induction k with
  | zero => rfl
  | succ k ih => unfold lettersP; rw [ih fun i hi => h i (by omega), h k (by omega)]
theorem lettersP_size (p : Nat → Bool) (k : Nat) : (lettersP p k).size ≤ k := by
  induction k with
  | zero => exact Nat.le_refl _
  | succ k ih =>
    unfold lettersP
    split
    · rw [ByteArray.size_append, ByteArray.size_extract]; omega
    · omega
/-- The goal and the cell are valid, and the cell is on the way. -/
def playB (c : Int) (L : List Int) (n : Nat) : Bool := onOk c L n && wayB c L
theorem playB_on {c : Int} {L : List Int} {n : Nat} (h : playB c L n = true) : allDig L ∧ inB 0 127 c = true := by
  unfold playB at h
  simp only [Bool.and_eq_true] at h
  refine ⟨onOk_dig h.1, ?_⟩
  have := h.1
  unfold onOk at this
  simp only [Bool.and_eq_true] at this
  exact this.2
theorem l11Good_any (c : Int) (ao : Option Addr) (n cap : Nat) (L : List Int) (w : World) (hr : RdI w ao L) (hn : L.length = n) (hm : n ≤ maxLen) (hcap : n ≤ cap) :
    Calls Tryz.prog 32 #[.int .i64 c, .slice ao n cap] w fun e w' => e = .returned (.bool (playB c L n)) ∧ Below w.heap.size w w' := by
  unfold playB
  generalize ho : onOk c L n = o
  have HO := Lib.hid ho
  have ho2 := ho
  unfold onOk at ho2
  generalize hg : (orderB L && decide (0 < n)) = g at ho2
  generalize hi : inB 0 127 c = i at ho2
  have HG := Lib.hid hg
  have HI := Lib.hid hi
  clear hg hi ho
  subst ho2
  have HN := Lib.hid hn
  clear hn
  rcases g with _ | _
  · go_enter Tryz.func32, Tryz.ntmps32
    go_wp2_with (first | (go_at_call 69; refine (l11Goal_any _ _ _ L _ hr HN.out hm hcap).mono ?_; rw [HG.out]; rintro e w1 ⟨rfl, hb1⟩))
    go_ret
    exact ⟨rfl, hb1⟩
  · rcases i with _ | _
    · go_enter Tryz.func32, Tryz.ntmps32
      go_wp2_with (first | (go_at_call 69; refine (l11Goal_any _ _ _ L _ hr HN.out hm hcap).mono ?_; rw [HG.out]; rintro e w1 ⟨rfl, hb1⟩) | (go_at_call 70; refine (l2Cell_any _ _).mono ?_; rw [HI.out]; rintro e w' ⟨rfl, rfl⟩))
      go_ret
      exact ⟨rfl, hb1⟩
    · have HD := Lib.hid (onOk_dig HO.out)
      go_enter Tryz.func32, Tryz.ntmps32
      go_wp2_with (first | (go_at_call 69; refine (l11Goal_any _ _ _ L _ hr HN.out hm hcap).mono ?_; rw [HG.out]; rintro e w1 ⟨rfl, hb1⟩) | (go_at_call 70; refine (l2Cell_any _ _).mono ?_; rw [HI.out]; rintro e w' ⟨rfl, rfl⟩) | (go_at_call 33; refine (l11Way_any c HI.out _ _ _ L _ (RdI_below hr hb1) HN.out hm HD.out).mono ?_; rintro e w2 ⟨rfl, hb2⟩))
      go_ret
      exact ⟨rfl, belowThen hb1 hb2⟩
theorem isPlayable_any (c : Int) (ao : Option Addr) (n cap : Nat) (L : List Int) (w : World) (hr : RdI w ao L) (hn : L.length = n) (hm : n ≤ maxLen) (hcap : n ≤ cap) :
    Calls Tryz.prog 45 #[.int .i64 c, .slice ao n cap] w fun e w' => e = .returned (.bool (playB c L n)) ∧ Below w.heap.size w w' := by
  unfold playB
  generalize ho : onOk c L n = o
  have HO := Lib.hid ho
  have ho2 := ho
  unfold onOk at ho2
  generalize hg : (orderB L && decide (0 < n)) = g at ho2
  generalize hi : inB 0 127 c = i at ho2
  have HG := Lib.hid hg
  have HI := Lib.hid hi
  clear hg hi ho
  subst ho2
  have HN := Lib.hid hn
  clear hn
  rcases g with _ | _
  · go_enter Tryz.func45, Tryz.ntmps45
    go_wp2_with (first | (go_at_call 78; refine (IsGoalI_any _ _ _ L _ hr HN.out hm hcap).mono ?_; rw [HG.out]; rintro e w' ⟨rfl, rfl⟩))
    go_ret
    exact ⟨rfl, Below.refl _ _⟩
  · rcases i with _ | _
    · go_enter Tryz.func45, Tryz.ntmps45
      go_wp2_with (first | (go_at_call 78; refine (IsGoalI_any _ _ _ L _ hr HN.out hm hcap).mono ?_; rw [HG.out]; rintro e w' ⟨rfl, rfl⟩) | (go_at_call 59; refine (IsCell_any _ _).mono ?_; rw [HI.out]; rintro e w' ⟨rfl, rfl⟩))
      go_ret
      exact ⟨rfl, Below.refl _ _⟩
    · have HD := Lib.hid (onOk_dig HO.out)
      go_enter Tryz.func45, Tryz.ntmps45
      go_wp2_with (first | (go_at_call 78; refine (IsGoalI_any _ _ _ L _ hr HN.out hm hcap).mono ?_; rw [HG.out]; rintro e w' ⟨rfl, rfl⟩) | (go_at_call 59; refine (IsCell_any _ _).mono ?_; rw [HI.out]; rintro e w' ⟨rfl, rfl⟩) | (go_at_call 79; refine (isOnWay_any c _ _ _ L _ hr HN.out hm HD.out).mono ?_; rintro e w2 ⟨rfl, hb2⟩))
      go_ret
      exact ⟨rfl, hb2⟩
end Go.Proofs.YtcddfpbohejhhaaGreat

namespace Go.Proofs.YtcddfpbohejhhaaGreat
open Go.RowKit

/-- The cells that a cell can become by lighting one of the first k bars. -/
def litP (L : List Int) (c k : Nat) : List Nat := ((List.range k).filter (nextB L c)).map fun b => c ||| 2 ^ b
def litL (L : List Int) (c : Nat) : List Nat := litP L c 7
/-- Natural numbers as integers. -/
def ints (l : List Nat) : List Int := l.map fun (n : Nat) => (n : Int)
theorem litP_succ (L : List Int) (c k : Nat) : litP L c (k + 1) = if nextB L c k = true then litP L c k ++ [c ||| 2 ^ k] else litP L c k := by
  simp only [litP, List.range_succ, List.filter_append, List.map_append]
  split <;> simp_all [List.filter_cons]
theorem litP_le (L : List Int) (c k : Nat) : (litP L c k).length ≤ k := by
  simp only [litP, List.length_map]
  exact Nat.le_trans (List.length_filter_le _ _) (by simp)
theorem ints_length (l : List Nat) : (ints l).length = l.length := by simp [ints]
theorem ints_append (l m : List Nat) : ints (l ++ m) = ints l ++ ints m := by simp [ints]
theorem ints_getD (l : List Nat) (j : Nat) : (ints l).getD j 0 = ((l.getD j 0 : Nat) : Int) := by
  simp only [ints, List.getD_eq_getElem?_getD, List.getElem?_map]
  cases l[j]? <;> rfl
/-- A slice of the call's own is returned that holds the numbers. -/
def RetNats (l : List Nat) (w : World) (e : Ending) (w' : World) : Prop := ∃ ao cap, e = .returned (.slice ao l.length cap) ∧ ownsInts w' w.heap.size (.slice ao l.length cap) (ints l) ∧ Below w.heap.size w w'
set_option maxHeartbeats 400000 in
theorem lit_any (c : Nat) (hc : c < 128) (ao : Option Addr) (n cap : Nat) (L : List Int) (w : World) (hr : RdI w ao L) (hn : L.length = n) (hm : n ≤ maxLen) (hD : allDig L) :
    Calls Tryz.prog 88 #[.int .i64 c, .slice ao n cap] w (RetNats (litL L c) w) := by
  have HD := Lib.hid hD
  have HN := Lib.hid hn
  clear hD hn
  have hA1 := @cellAlloc; have hA2 := @frozenAlloc; have hA3 := @setCellAlloc; go_enter Tryz.func88, Tryz.ntmps88
  go_wp2
  go_loopw [5, 7] (fun v i wr => ∃ k : Nat, k ≤ 7 ∧ i = .int .i64 k ∧ ownsInts wr w.heap.size v (ints (litP L c k)) ∧ Below w.heap.size w wr) (fun _ i _ => 7 - (intOf i).toNat)
  case atStart => exact ⟨0, by omega, rfl, ownsInts_nil _ _, Below.refl _ _⟩
  case round =>
    obtain ⟨k, hle, rfl, hown, hbw⟩ := hrel
    by_cases hlt : k < 7
    · have hs := shl_fact k hlt
      have hp := pow_lt k hlt
      have hx := or64 c (2 ^ k) (by omega) (by omega)
      have hlen := litP_le L c k
      rw [← ints_length] at hlen
      have hML := lightM_lt L c
      have hbit := bit_fact (lightM L c) k (by omega)
      have hmb : (lightM L c / 2 ^ k % 2 == 1) = nextB L c k := maskP_bit (nextB L c) k hlt
      have hcond : ((((lightM L c / 2 ^ k % 2 : Nat) : Int)) == 1) = (lightM L c / 2 ^ k % 2 == 1) := by rw [Bool.eq_iff_iff]; simp only [beq_iff_eq]; omega
      have hsucc := litP_succ L c k
      rw [hmb] at hcond
      have HM := Lib.hid (fun w hr => lightable_any c hc ao n cap L w hr HN.out hm HD.out)
      generalize lightM L c = M at hML hbit hcond HM
      generalize (M / 2 ^ k % 2 : Nat) = bb at hbit hcond
      generalize hq : nextB L c k = q at hcond hsucc
      generalize (2 ^ k : Nat) = m at hs hp hx hsucc
      generalize (c ||| m) = d at hx hsucc
      clear hq hmb
      have HS := Lib.hid hsucc
      clear hsucc
      rcases q with _ | _
      · go_wp2_with (go_at_call 90; refine (HM.out _ (RdI_below hr hbw)).mono ?_; rintro e w1 ⟨rfl, hb1⟩)
        go_roundw
        case rel => exact ⟨k + 1, by omega, by go_num, by rw [HS.out]; exact ownsInts_below hown hb1 (Nat.le_refl _), belowThen hbw hb1⟩
        case measure => simp [intOf]; omega
      · go_wp2_with (first | (go_at_call 90; refine (HM.out _ (RdI_below hr hbw)).mono ?_; rintro e w1 ⟨rfl, hb1⟩; have hown1 := ownsInts_below hown hb1 (Nat.le_refl _); have hs1 := hb1.size; have hsw := hbw.size) | (at_builtin; refine wpAppendInt w1 (by rfl) _ _ (by rfl) w.heap.size _ _ (by rfl) hown1 (d : Int) (by rfl) (by omega) (by omega) ?_; intro co cc w4 hv4 hb4))
        go_roundw
        case rel => exact ⟨k + 1, by omega, by go_num, by rw [HS.out, if_pos trivial, ints_append]; exact hv4, (belowThen hbw hb1).trans hb4⟩
        case measure => simp [intOf]; omega
    · have hk : k = 7 := by omega
      subst hk
      obtain ⟨co, cc, rfl, _⟩ := ownsInts_shape hown
      rw [ints_length] at hown
      go_wp2
      go_ret
      exact ⟨co, cc, by rw [ints_length]; rfl, hown, hbw⟩
end Go.Proofs.YtcddfpbohejhhaaGreat
