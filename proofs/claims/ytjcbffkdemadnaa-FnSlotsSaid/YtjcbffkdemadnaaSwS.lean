/- Contracts of the functions that count the switches of a frame. -/
import Derived.Test.YtjcbffkdemadnaaSeqM
import Derived.Lib.Hide
import Derived.Deep.QuietTactic
import Derived.BigQuiet
namespace Go.Proofs.Ytjcbffkdemadnaa
open Go.RowKit

/-- All numbers are small. -/
def smallS (l : List (Int × Int)) : Prop := ∀ x ∈ l, 0 ≤ x.1 ∧ x.1 < 128 ∧ 0 ≤ x.2 ∧ x.2 < 128
theorem small_at {l : List (Int × Int)} (h : smallS l) (k : Nat) (hk : k < l.length) : ∃ p q : Nat, (l.getD k (0, 0)).1 = (p : Int) ∧ (l.getD k (0, 0)).2 = (q : Int) ∧ p < 128 ∧ q < 128 ∧ (l.getD k (0, 0)).1.toNat = p ∧ (l.getD k (0, 0)).2.toNat = q := by
  have hm : l.getD k (0, 0) ∈ l := by rw [List.getD_eq_getElem?_getD, List.getElem?_eq_getElem hk]; exact List.getElem_mem _
  obtain ⟨h1, h2, h3, h4⟩ := h _ hm
  exact ⟨_, _, (Int.toNat_of_nonneg h1).symm, (Int.toNat_of_nonneg h3).symm, by omega, by omega, rfl, rfl⟩
theorem remS (k n : Nat) (hn : 0 < n) : Int.tmod ((k : Int) + 1) (n : Int) = (((k + 1) % n : Nat) : Int) ∧ ((k : Int) + 1) % (n : Int) = (((k + 1) % n : Nat) : Int) ∧ (k + 1) % n < n := by
  have h2 : ((k : Int) + 1) % (n : Int) = (((k + 1) % n : Nat) : Int) := by simp
  exact ⟨by rw [Int.tmod_eq_emod_of_nonneg (by omega)]; exact h2, h2, Nat.mod_lt _ hn⟩
theorem xor_small (a b : Nat) (ha : a < 128) (hb : b < 128) : a ^^^ b < 128 := Nat.xor_lt_two_pow (n := 7) ha hb
set_option maxHeartbeats 800000 in
theorem l8Next_any (ao : Option Addr) (n cap k : Nat) (l : List (Int × Int)) (w : World) (hr : RdS w ao l) (hn : l.length = n) (hk : k < n) (hm : n ≤ 1000000) :
    Calls Try.prog 53 #[.slice ao n cap, .int .i64 k] w fun e w' => e = .returned (.agg #[.int .i64 (l.getD ((k + 1) % l.length) (0, 0)).1, .int .i64 (l.getD ((k + 1) % l.length) (0, 0)).2]) ∧ Below w.heap.size w w' := by
  obtain ⟨r1, r2, r3⟩ := remS k n (by omega)
  rw [hn]
  generalize (k + 1) % n = r at *
  rcases hr with h | ⟨b, o, rfl, hb, hc⟩
  · rw [h] at hn; simp at hn; omega
  obtain ⟨hx, hy⟩ := hc r (by omega)
  generalize l.getD r (0, 0) = x at *
  clear hc
  have HN := Lib.hid hn
  clear hn
  have hA1 := @cellAlloc; have hA2 := @frozenAlloc; have hA3 := @setCellAlloc; go_enter Try.func53, Try.ntmps53
  go_wp2
  refine bodyPost_ret (v := .agg #[.int .i64 x.1, .int .i64 x.2]) (by simp [results, Try.results53, go_sem]) rfl ⟨rfl, by (repeat (first | assumption | exact Below.refl _ _ | refine belowThen ?_ (Go.Joins.below_alloc1 _ _) | apply Below.drew | refine belowThen ?_ (by assumption) | refine belowThen ?_ (Go.Joins.below_draws _ _ _) | refine Below.setCell ?_ (by first | exact Nat.le_refl _ | (simp; done) | (simp; omega)) _))⟩
set_option maxHeartbeats 1600000 in
theorem l8Switches_any (ao : Option Addr) (n cap : Nat) (l : List (Int × Int)) (w : World) (hr : RdS w ao l) (hn : l.length = n) (hm : n ≤ 1000000) (hs : smallS l) :
    Calls Try.prog 29 #[.slice ao n cap] w fun e w' => e = .returned (.int .i64 (swF l)) ∧ Below w.heap.size w w' := by
  have HN := Lib.hid hn
  have HS := Lib.hid hs
  clear hs hn
  have hA1 := @cellAlloc; have hA2 := @frozenAlloc; have hA3 := @setCellAlloc; go_enter Try.func29, Try.ntmps29
  go_wp2
  go_loopw [3, 4] (fun s i wr => ∃ k : Nat, k ≤ n ∧ i = .int .i64 k ∧ s = .int .i64 (swP l k) ∧ Below w.heap.size w wr) (fun _ i _ => n - (intOf i).toNat)
  case atStart => exact ⟨0, by omega, rfl, rfl, Below.refl _ _⟩
  case round =>
    obtain ⟨k, hk, rfl, rfl, hbw⟩ := hrel
    by_cases hlt : k < n
    · have hrr := RdS_below hr hbw
      have HNX := Lib.hid (l8Next_any ao n cap k l wr hrr HN.out hlt hm)
      have hle := swP_le l k
      have hsucc : swP l (k + 1) = swP l k + sw1 (l.getD k (0, 0)) (l.getD ((k + 1) % l.length) (0, 0)) := rfl
      obtain ⟨p, q, e1, e2, hp, hq, t1, t2⟩ := small_at HS.out k (by rw [HN.out]; exact hlt)
      obtain ⟨p', q', e1', e2', hp', hq', t1', t2'⟩ := small_at HS.out ((k + 1) % l.length) (Nat.mod_lt _ (by rw [HN.out]; omega))
      unfold sw1 at hsucc
      rw [t1, t2, t1', t2'] at hsucc
      rw [e1', e2'] at HNX
      rcases hrr with h | ⟨b, o, rfl, hb, hc⟩
      · have := HN.out; rw [h] at this; simp at this; omega
      obtain ⟨hx, hy⟩ := hc k (by rw [HN.out]; exact hlt)
      rw [e1] at hx
      rw [e2] at hy
      have hX1 := xor64 p p' (by omega) (by omega)
      have hX2 := xor64 q q' (by omega) (by omega)
      have b1 := xor_small _ _ hp hp'
      have b2 := xor_small _ _ hq hq'
      have l1 := cnt_le (p ^^^ p')
      have l2 := cnt_le (q ^^^ q')
      obtain ⟨x1, hx1⟩ : ∃ x1, p ^^^ p' = x1 := ⟨_, rfl⟩
      obtain ⟨x2, hx2⟩ : ∃ x2, q ^^^ q' = x2 := ⟨_, rfl⟩
      rw [hx1] at hX1 b1 l1 hsucc
      rw [hx2] at hX2 b2 l2 hsucc
      clear hx1 hx2
      have HSU := Lib.hid hsucc
      clear hsucc hc e1 e2 e1' e2' t1 t2 t1' t2'
      obtain ⟨sk, hsk⟩ : ∃ sk, swP l k = sk := ⟨_, rfl⟩
      have hsk2 := hsk
      rw [hsk] at hle ⊢
      have HSK := Lib.hid hsk
      clear hsk hsk2
      go_wp2_with (go_at_call 53; refine HNX.out.mono ?_; rintro e w1 ⟨rfl, hb1⟩; have hx1 := (hb1.cell (p := ⟨b, o + k * 2, none⟩) hb).trans hx; have hy1 := (hb1.cell (p := ⟨b, o + k * 2 + 1, none⟩) hb).trans hy; have hbb : b < w1.heap.size := Nat.lt_of_lt_of_le hb hb1.size)
      go_quiet ((go_at_call 54; exact quietL (l2Count_any _ (by assumption) _)))
      go_wp2
      go_roundw
      case rel => exact ⟨k + 1, by omega, by go_num, by rw [HSU.out, HSK.out]; go_num, by (repeat (first | assumption | exact Below.refl _ _ | refine belowThen ?_ (Go.Joins.below_alloc1 _ _) | apply Below.drew | refine belowThen ?_ (by assumption) | refine belowThen ?_ (Go.Joins.below_draws _ _ _) | refine Below.setCell ?_ (by first | exact Nat.le_refl _ | (simp; done) | (simp; omega)) _))⟩
      case measure => simp [intOf]; omega
    · have hkn : k = n := by omega
      subst hkn
      have e : swF l = swP l k := by unfold swF; rw [HN.out]
      go_wp2
      go_ret
      exact ⟨by rw [e]; rfl, hbw⟩
set_option maxHeartbeats 1600000 in
theorem switches_any (ao : Option Addr) (n cap : Nat) (l : List (Int × Int)) (w : World) (hr : RdS w ao l) (hn : l.length = n) (hm : n ≤ 1000000) (hs : smallS l) :
    Calls Try.prog 39 #[.slice ao n cap] w fun e w' => e = .returned (.int .i64 (swF l)) ∧ Below w.heap.size w w' := by
  have HN := Lib.hid hn
  have HS := Lib.hid hs
  clear hs hn
  have hA1 := @cellAlloc; have hA2 := @frozenAlloc; have hA3 := @setCellAlloc; go_enter Try.func39, Try.ntmps39
  go_wp2
  go_loopw [3, 9] (fun s i wr => ∃ k : Nat, k ≤ n ∧ i = .int .i64 k ∧ s = .int .i64 (swP l k) ∧ Below w.heap.size w wr) (fun _ i _ => n - (intOf i).toNat)
  case atStart => exact ⟨0, by omega, rfl, rfl, Below.refl _ _⟩
  case round =>
    obtain ⟨k, hk, rfl, rfl, hbw⟩ := hrel
    by_cases hlt : k < n
    · have hrr := RdS_below hr hbw
      obtain ⟨r1, r2, r3⟩ := remS k n (by omega)
      have hle := swP_le l k
      have hsucc : swP l (k + 1) = swP l k + sw1 (l.getD k (0, 0)) (l.getD ((k + 1) % l.length) (0, 0)) := rfl
      rw [HN.out] at hsucc
      obtain ⟨r, hre⟩ : ∃ r, (k + 1) % n = r := ⟨_, rfl⟩
      rw [hre] at r1 r2 r3 hsucc
      clear hre
      obtain ⟨p, q, e1, e2, hp, hq, t1, t2⟩ := small_at HS.out k (by rw [HN.out]; exact hlt)
      obtain ⟨p', q', e1', e2', hp', hq', t1', t2'⟩ := small_at HS.out r (by rw [HN.out]; exact r3)
      unfold sw1 at hsucc
      rw [t1, t2, t1', t2'] at hsucc
      rcases hrr with h | ⟨b, o, rfl, hb, hc⟩
      · have := HN.out; rw [h] at this; simp at this; omega
      obtain ⟨hx, hy⟩ := hc k (by rw [HN.out]; exact hlt)
      obtain ⟨hx', hy'⟩ := hc r (by rw [HN.out]; exact r3)
      rw [e1] at hx
      rw [e2] at hy
      rw [e1'] at hx'
      rw [e2'] at hy'
      have hX1 := xor64 p p' (by omega) (by omega)
      have hX2 := xor64 q q' (by omega) (by omega)
      have b1 := xor_small _ _ hp hp'
      have b2 := xor_small _ _ hq hq'
      have l1 := cnt_le (p ^^^ p')
      have l2 := cnt_le (q ^^^ q')
      obtain ⟨x1, hx1⟩ : ∃ x1, p ^^^ p' = x1 := ⟨_, rfl⟩
      obtain ⟨x2, hx2⟩ : ∃ x2, q ^^^ q' = x2 := ⟨_, rfl⟩
      rw [hx1] at hX1 b1 l1 hsucc
      rw [hx2] at hX2 b2 l2 hsucc
      clear hx1 hx2
      have HSU := Lib.hid hsucc
      clear hsucc hc e1 e2 e1' e2' t1 t2 t1' t2'
      obtain ⟨sk, hsk⟩ : ∃ sk, swP l k = sk := ⟨_, rfl⟩
      rw [hsk] at hle ⊢
      have HSK := Lib.hid hsk
      clear hsk
      go_wp2_with fail
      go_quiet ((go_at_call 62; exact quietL (count_any _ (by assumption) _)))
      go_wp2
      go_roundw
      case rel => exact ⟨k + 1, by omega, by go_num, by rw [HSU.out, HSK.out]; go_num, by (repeat (first | assumption | exact Below.refl _ _ | refine belowThen ?_ (Go.Joins.below_alloc1 _ _) | apply Below.drew | refine belowThen ?_ (by assumption) | refine belowThen ?_ (Go.Joins.below_draws _ _ _) | refine Below.setCell ?_ (by first | exact Nat.le_refl _ | (simp; done) | (simp; omega)) _))⟩
      case measure => simp [intOf]; omega
    · have hkn : k = n := by omega
      subst hkn
      have e : swF l = swP l k := by unfold swF; rw [HN.out]
      go_wp2
      go_ret
      exact ⟨by rw [e]; rfl, hbw⟩
end Go.Proofs.Ytjcbffkdemadnaa
