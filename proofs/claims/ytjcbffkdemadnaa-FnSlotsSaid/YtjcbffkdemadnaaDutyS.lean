/- The contract of the reference's function that tells in how many Slots each bar lights. -/
import Derived.Test.YtjcbffkdemadnaaDuty
import Derived.Lib.Hide
import Derived.Deep.RegionWith
namespace Go.Proofs.Ytjcbffkdemadnaa
open Go.RowKit

set_option maxHeartbeats 3200000 in
set_option maxRecDepth 100000 in
theorem l8Duty_any (k : Nat) (hk : 1 ≤ k ∧ k ≤ 6) (ao : Option Addr) (n cap : Nat) (l : List (Int × Int)) (w : World) (hr : RdS w ao l) (hn : l.length = n) (hm : n ≤ 1000) (hs : smallS l) :
    Calls Try.prog 48 #[.int .i64 k, .slice ao n cap] w (RetDuty k (dutL k l) w) := by
  obtain ⟨i0, hi, hz0, hz1, hz2⟩ := info_parts infoSeven
  have HN := Lib.hid hn
  have HS := Lib.hid hs
  have HE := Lib.hid (dutP_last k l)
  clear hn hs
  have hA1 := @cellAlloc; have hA2 := @frozenAlloc; have hA3 := @setCellAlloc; go_enter Try.func48, Try.ntmps48
  go_wp2_with (at_make; refine wpList_make_full _ (by rfl) _ _ _ (by rfl) w.heap.size 66 i0 _ 7 Try.underlying64 hi hz0 hz1 _ _ _ _ k (by rfl) (by rfl) (by rfl) (by rfl) (by rw [hz2]; omega) (by unfold maxLen; omega) (Nat.le_refl _) ?_; intro w2 hown2 hg2)
  have hrow : ownsD w2 w.heap.size w.heap.size k (dutP k l 0 0) := by
    unfold ownsD
    rw [dutP_first]
    rw [madeCells_seven] at hown2
    exact hown2
  have hb2 : Below w.heap.size w w2 := (Below.refl _ _).grown hg2 (Nat.le_refl _) (fun k hk => by cases hk)
  clear hown2 hg2
  obtain ⟨g, hg⟩ : ∃ g, w.heap.size = g := ⟨_, rfl⟩
  rw [hg] at hrow hb2 ⊢
  have HG := Lib.hid hg
  clear hg
  go_loopw [6] (fun i wr => ∃ j : Nat, j ≤ n ∧ i = .int .i64 j ∧ ownsD wr g g k (dutP k l j 0) ∧ Below g w wr) (fun i _ => n - (intOf i).toNat)
  case atStart => exact ⟨0, by omega, rfl, hrow, hb2⟩
  case round =>
    obtain ⟨j, hj, rfl, hown, hbw⟩ := hrel
    by_cases hlt : j < n
    · have hdj : decide ((j : Int) < (n : Int)) = true := by simp; omega
      have hgl := (ownsD_at hown 0 (by omega)).2.2.2
      rcases hr with h | ⟨b, o, rfl, hbl, hc⟩
      · have := HN.out; rw [h] at this; simp at this; omega
      obtain ⟨hw0, hw1⟩ := hc j (by rw [HN.out]; exact hlt)
      have hb0w : b < g := by rw [← HG.out]; exact hbl
      obtain ⟨p0, p1, e0, e1, hp0, hp1, t0, t1⟩ := small_at HS.out j (by rw [HN.out]; exact hlt)
      rw [e0] at hw0
      rw [e1] at hw1
      have hsuc := fun t => duN_succ t l j (by rw [HN.out]; exact hlt)
      have hle := fun t => duN_le t (l.take j)
      have hlj : (l.take j).length ≤ 1000 := by simp; omega
      have HT := Lib.hid (dutP_turn k l j)
      unfold du1 at hsuc
      rw [t0, t1] at hsuc
      have HF := Lib.hid (And.intro hsuc (fun t => Nat.le_trans (hle t) hlj))
      obtain ⟨wo, hwo⟩ : ∃ wo : World, wo = wr := ⟨_, rfl⟩
      subst hwo
      clear hc e0 e1 t0 t1 hsuc hle hlj
      go_wp2_with fail
      go_loopw [7] (fun i wq => ∃ x : Nat, x ≤ k ∧ i = .int .i64 x ∧ ownsD wq g g k (dutP k l j (x * 7)) ∧ Below g w wq) (fun i _ => k - (intOf i).toNat)
      case atStart => exact ⟨0, by omega, rfl, by rw [Nat.zero_mul]; exact hown, hbw⟩
      case round =>
        obtain ⟨x, hx, rfl, hownx, hbx⟩ := hrel
        by_cases hlx : x < k
        · have hdx : decide ((x : Int) < (k : Int)) = true := by simp; omega
          go_wp2_with fail
          obtain ⟨wp, hwp⟩ : ∃ wp : World, wp = wr := ⟨_, rfl⟩
          subst hwp
          go_loopw [8] (fun i wq => ∃ y : Nat, y ≤ 7 ∧ i = .int .i64 y ∧ ownsD wq g g k (dutP k l j (x * 7 + y)) ∧ Below g w wq) (fun i _ => 7 - (intOf i).toNat)
          case atStart => exact ⟨0, by omega, rfl, hownx, hbx⟩
          case round =>
            obtain ⟨y, hy, rfl, howny, hby⟩ := hrel
            clear hownx hbx
            have hcy0 := (hby.cell (p := ⟨b, o + j * 2, none⟩) hb0w).trans hw0
            have hcy1 := (hby.cell (p := ⟨b, o + j * 2 + 1, none⟩) hb0w).trans hw1
            by_cases hly : y < 7
            · have ht : x * 7 + y < k * 7 := by omega
              have hbit0 := bit_fact p0 x (by omega)
              have hbit1 := bit_fact p1 y (by omega)
              have hsuc := HF.out.1 (x * 7 + y)
              have hle := HF.out.2 (x * 7 + y)
              rw [show (x * 7 + y) / 7 = x by omega, show (x * 7 + y) % 7 = y by omega] at hsuc
              have hget := dutP_getD k l j (x * 7 + y) ht
              have hset := dutP_set k l j (x * 7 + y) ht
              obtain ⟨hcx, hfx, -, hgx⟩ := ownsD_at howny (x * 7 + y) ht
              rw [hget] at hcx
              have hb0 : p0 / 2 ^ x % 2 < 2 := Nat.mod_lt _ (by decide)
              have hb1 : p1 / 2 ^ y % 2 < 2 := Nat.mod_lt _ (by decide)
              generalize p0 / 2 ^ x % 2 = bx at hbit0 hsuc hb0
              generalize p1 / 2 ^ y % 2 = by1 at hbit1 hsuc hb1
              rw [hsuc] at hset
              generalize duN (x * 7 + y) (l.take j) = q at hcx hset hle
              have hfin : ∀ v : Nat, v = q + bx * by1 → ownsD (wr.setCell ⟨g, x * 7 + y, none⟩ (.int .i64 (v : Int))) g g k (dutP k l j (x * 7 + (y + 1))) ∧ Below g w (wr.setCell ⟨g, x * 7 + y, none⟩ (.int .i64 (v : Int))) := by
                rintro v rfl
                have ho := ownsD_set howny (x * 7 + y) ((q + bx * by1 : Nat) : Int)
                rw [hset] at ho
                refine ⟨by rw [← Nat.add_assoc]; exact ho, hby.setCell (Nat.le_refl _) _⟩
              have HFI := Lib.hid hfin
              clear hsuc hget hset hfin
              have hyc : by1 = 0 ∨ by1 = 1 := by omega
              rcases hyc with rfl | rfl
              · obtain ⟨f1, f2⟩ := HFI.out q (by omega)
                go_wp2_with fail
                go_region_with (fail)
                all_goals
                  go_wp2
                  go_roundw
                  case rel => exact ⟨y + 1, by omega, by go_num, ownsD_drew f1, f2.drew⟩
                  case measure => simp [intOf]; omega
              · obtain ⟨f1, f2⟩ := HFI.out (q + bx) (by omega)
                go_wp2_with fail
                go_region_with (fail)
                all_goals
                  go_wp2
                  go_roundw
                  case rel => exact ⟨y + 1, by omega, by go_num, ownsD_drew f1, f2.drew⟩
                  case measure => simp [intOf]; omega
            · have hy7 : y = 7 := by omega
              subst hy7
              rw [show x * 7 + 7 = (x + 1) * 7 by omega] at howny
              go_wp2
              go_roundw
              case rel => exact ⟨x + 1, by omega, by go_num, howny, hby⟩
              case measure => simp [intOf]; omega
        · have hxk : x = k := by omega
          subst hxk
          rw [HT.out] at hownx
          have hdx : decide ((x : Int) < (x : Int)) = false := by simp
          go_wp2
          go_roundw
          case rel => exact ⟨j + 1, by omega, by go_num, hownx, hbx⟩
          case measure => simp [intOf]; omega
    · have hjn : j = n := by omega
      subst hjn
      have hE := HE.out
      rw [HN.out] at hE
      rw [hE] at hown
      go_wp2
      go_ret
      exact ⟨g, rfl, by rw [HG.out]; exact hown, by rw [HG.out]; exact hbw⟩
end Go.Proofs.Ytjcbffkdemadnaa
