/- Contracts of the functions that tell what is seen of a frame. -/
import Derived.Test.YtjcbffkdemadnaaSeenM
import Derived.Test.YtjcbffkdemadnaaMarks
import Derived.Test.YtjcbffkdemadnaaSwS
import Derived.Test.YtjcbffkdemadnaaMask
import Derived.Lib.Hide
import Derived.Deep.RegionHeld3
import Derived.Deep.RegionWith
namespace Go.Proofs.Ytjcbffkdemadnaa
open Go.RowKit

theorem block_of_ownsInts {w : World} {B g n cap : Nat} {L : List Int} (h : ownsInts w B (.slice (some ⟨g, 0, none⟩) n cap) L) (hp : 0 < L.length) : g < w.heap.size ∧ B ≤ g ∧ (∀ j, j < L.length → w.cell? ⟨g, j, none⟩ = some (.int .i64 (L.getD j 0))) ∧ ∀ j, w.frozen? ⟨g, j, none⟩ = false := by
  obtain ⟨ao', cap', he, hL | ⟨g', rfl, hBg, hg', _, hc⟩⟩ := ownsInts_shape h
  · rw [hL] at hp; simp at hp
  · simp only [Value.slice.injEq, Option.some.injEq, Addr.mk.injEq] at he
    obtain ⟨⟨rfl, -⟩, -, -⟩ := he
    exact ⟨hg', hBg, hc, fun j => ownsInts_frozen h hp j⟩
theorem small_ofNat {l : List (Int × Int)} (h : smallS l) : ∀ s ∈ l, s.2.toNat < 128 := fun s hs => by have := h s hs; omega
/-- A row of numbers of the call's own is returned. -/
def RetRow (k : Nat) (L : List Int) (w : World) (e : Ending) (w' : World) : Prop := ∃ g, e = .returned (.slice (some ⟨g, 0, none⟩) k k) ∧ ownsInts w' w.heap.size (.slice (some ⟨g, 0, none⟩) k k) L ∧ Below w.heap.size w w'
set_option maxHeartbeats 1600000 in
theorem seen_any (k : Nat) (hk : 1 ≤ k ∧ k ≤ 6) (ao : Option Addr) (n cap : Nat) (l : List (Int × Int)) (w : World) (hr : RdS w ao l) (hn : l.length = n) (hm : n ≤ 1000) (hs : smallS l) :
    Calls Try.prog 50 #[.int .i64 k, .slice ao n cap] w (RetRow k (seenL k l) w) := by
  obtain ⟨i0, hi, hz0, hz1, hz2⟩ := info_parts infoInt
  have HN := Lib.hid hn
  have HS := Lib.hid hs
  have HE := Lib.hid (seenP_last k l)
  clear hn hs
  have hA1 := @cellAlloc; have hA2 := @frozenAlloc; have hA3 := @setCellAlloc; go_enter Try.func50, Try.ntmps50
  go_wp2_with (at_make; refine wpList_make_full _ (by rfl) _ _ _ (by rfl) w.heap.size 3 i0 (.int .i64 0) 1 Try.underlying37 hi hz0 hz1 _ _ _ _ k (by rfl) (by rfl) (by rfl) (by rfl) (by rw [hz2]; omega) (by unfold maxLen; omega) (Nat.le_refl _) ?_; intro w2 hown2 hg2)
  have hrow : ownsInts w2 w.heap.size (.slice (some ⟨w.heap.size, 0, none⟩) k k) (seenP k l 0 0) := by
    rw [seenP_first]
    refine .inl ?_
    have e1 : (madeCells (Value.int .i64 0).cells (k * 1)).toList = (List.replicate k (0 : Int)).map (Value.int .i64) := by
      rw [Nat.mul_one]; exact (toList_madeCells_one _ _).trans (by simp)
    rw [e1] at hown2
    simpa using hown2
  have hb2 : Below w.heap.size w w2 := (Below.refl _ _).grown hg2 (Nat.le_refl _) (fun k hk => by cases hk)
  clear hown2 hg2
  obtain ⟨g, hg⟩ : ∃ g, w.heap.size = g := ⟨_, rfl⟩
  rw [hg] at hrow hb2 ⊢
  have HG := Lib.hid hg
  clear hg
  go_loopw [13] (fun i wr => ∃ j : Nat, j ≤ n ∧ i = .int .i64 j ∧ ownsInts wr g (.slice (some ⟨g, 0, none⟩) k k) (seenP k l j 0) ∧ Below g w wr) (fun i _ => n - (intOf i).toNat)
  case atStart => exact ⟨0, by omega, rfl, hrow, hb2⟩
  case round =>
    obtain ⟨j, hj, rfl, hown, hbw⟩ := hrel
    by_cases hlt : j < n
    · have hdj : decide ((j : Int) < (n : Int)) = true := by simp; omega
      have hgl := (block_of_ownsInts hown (by rw [seenP_length]; omega)).1
      rcases RdS_below hr (by rw [HG.out]; exact hbw) with h | ⟨b, o, rfl, hbl, hc⟩
      · have := HN.out; rw [h] at this; simp at this; omega
      obtain ⟨hx0, hx1⟩ := hc j (by rw [HN.out]; exact hlt)
      obtain ⟨p0, p1, e0, e1, hp0, hp1, t0, t1⟩ := small_at HS.out j (by rw [HN.out]; exact hlt)
      rw [e0] at hx0
      rw [e1] at hx1
      have hsame := fun x => seenP_same k l j x (by rw [HN.out]; exact hlt)
      have hsuc := fun x => orB_succ x l j (by rw [HN.out]; exact hlt)
      have hlt8 := fun x => orB_lt x (l.take j) (fun s hs => small_ofNat HS.out s (List.mem_of_mem_take hs))
      have HT := Lib.hid (seenP_turn k l j)
      unfold orStep at hsuc
      rw [t0] at hsame hsuc
      rw [t1] at hsuc
      have HF := Lib.hid (And.intro hsame (And.intro hsuc hlt8))
      obtain ⟨wo, hwo⟩ : ∃ wo : World, wo = wr := ⟨_, rfl⟩
      subst hwo
      clear hc e0 e1 t0 t1 hsame hsuc hlt8
      go_wp2_with fail
      go_loopw [19] (fun i wq => ∃ x : Nat, x ≤ k ∧ i = .int .i64 x ∧ ownsInts wq g (.slice (some ⟨g, 0, none⟩) k k) (seenP k l j x) ∧ Below g w wq ∧ wq.cell? ⟨wo.heap.size, 0, none⟩ = some (.int .i64 p0) ∧ wq.cell? ⟨wo.heap.size, 1, none⟩ = some (.int .i64 p1)) (fun i _ => k - (intOf i).toNat)
      case atStart => exact ⟨0, by omega, rfl, ownsInts_below hown (Go.Joins.below_alloc1 _ _) (Nat.le_refl _), hbw.alloc (Nat.le_of_lt hgl) _, by simp, by simp⟩
      case round =>
        obtain ⟨x, hx, rfl, hownx, hbx, hc0, hc1⟩ := hrel
        by_cases hlx : x < k
        · have hdx : decide ((x : Int) < (k : Int)) = true := by simp; omega
          have hbit := bit_fact p0 x (by omega)
          have hsame := HF.out.1 x
          have hsuc := HF.out.2.1 x
          have hlt8 := HF.out.2.2 x
          have hget := seenP_getD k l j x hlx
          have hset := seenP_set k l j x hlx
          obtain ⟨hgx, hBg, hcx', hfx'⟩ := block_of_ownsInts hownx (by rw [seenP_length]; omega)
          have hcx := hcx' x (by rw [seenP_length]; exact hlx)
          rw [hget] at hcx
          have hfx := hfx' x
          clear hcx' hfx'
          have hls := seenP_length k l j x
          generalize p0 / 2 ^ x % 2 = bb at hbit hsame hsuc
          by_cases h1 : bb = 1
          · subst h1
            rw [if_pos rfl] at hsuc
            rw [hsuc] at hset
            generalize orB x (l.take j) = q at hcx hset hlt8
            have hor := or64 q p1 (by omega) (by omega)
            have hown3 := ownsInts_set hownx hls x ((q ||| p1 : Nat) : Int)
            rw [hset] at hown3
            have hb3 : Below g w (wr.setCell ⟨g, x, none⟩ (.int .i64 ((q ||| p1 : Nat) : Int))) := hbx.setCell (Nat.le_refl _) _
            have hc03 : (wr.setCell ⟨g, x, none⟩ (.int .i64 ((q ||| p1 : Nat) : Int))).cell? ⟨wo.heap.size, 0, none⟩ = some (.int .i64 p0) := by
              rw [World.cell?_setCell_other _ _ _ _ (by first | (simp; done) | (simp; omega))]; exact hc0
            have hc13 : (wr.setCell ⟨g, x, none⟩ (.int .i64 ((q ||| p1 : Nat) : Int))).cell? ⟨wo.heap.size, 1, none⟩ = some (.int .i64 p1) := by
              rw [World.cell?_setCell_other _ _ _ _ (by first | (simp; done) | (simp; omega))]; exact hc1
            clear hsame hget hset hsuc
            go_wp2_with fail
            go_region_with (fail)
            all_goals
              go_wp2
              go_roundw
              case rel => exact ⟨x + 1, by omega, by go_num, ownsInts_drew hown3, hb3.drew, hc03, hc13⟩
              case measure => simp [intOf]; omega
          · have hsx := hsame h1
            rw [← hsx] at hownx
            have hbe : (((bb : Nat) : Int) == 1) = false := by rw [beq_eq_false_iff_ne]; omega
            clear hsame hget hset hsuc hsx
            go_wp2
            go_roundw
            case rel => exact ⟨x + 1, by omega, by go_num, hownx, hbx, hc0, hc1⟩
            case measure => simp [intOf]; omega
        · have hxk : x = k := by omega
          subst hxk
          rw [HT.out] at hownx
          have hdx : decide ((x : Int) < (x : Int)) = false := by simp
          go_wp2
          go_roundw
          case rel => exact ⟨j + 1, by omega, by go_num, hownx, hbx⟩
          case measure => simp [intOf]; omega
    · have hjn : j = n := by omega
      subst hjn
      have hE := HE.out
      rw [HN.out] at hE
      rw [hE] at hown
      go_wp2
      go_ret
      exact ⟨g, rfl, by rw [HG.out]; exact hown, by rw [HG.out]; exact hbw⟩
set_option maxHeartbeats 1600000 in
theorem l8Seen_any (k : Nat) (hk : 1 ≤ k ∧ k ≤ 6) (ao : Option Addr) (n cap : Nat) (l : List (Int × Int)) (w : World) (hr : RdS w ao l) (hn : l.length = n) (hm : n ≤ 1000) (hs : smallS l) :
    Calls Try.prog 68 #[.int .i64 k, .slice ao n cap] w (RetRow k (seenL k l) w) := by
  obtain ⟨i0, hi, hz0, hz1, hz2⟩ := info_parts infoInt
  have HN := Lib.hid hn
  have HS := Lib.hid hs
  have HE := Lib.hid (seenP_last k l)
  clear hn hs
  have hA1 := @cellAlloc; have hA2 := @frozenAlloc; have hA3 := @setCellAlloc; go_enter Try.func68, Try.ntmps68
  go_wp2_with (at_make; refine wpList_make_full _ (by rfl) _ _ _ (by rfl) w.heap.size 3 i0 (.int .i64 0) 1 Try.underlying37 hi hz0 hz1 _ _ _ _ k (by rfl) (by rfl) (by rfl) (by rfl) (by rw [hz2]; omega) (by unfold maxLen; omega) (Nat.le_refl _) ?_; intro w2 hown2 hg2)
  have hrow : ownsInts w2 w.heap.size (.slice (some ⟨w.heap.size, 0, none⟩) k k) (seenP k l 0 0) := by
    rw [seenP_first]
    refine .inl ?_
    have e1 : (madeCells (Value.int .i64 0).cells (k * 1)).toList = (List.replicate k (0 : Int)).map (Value.int .i64) := by
      rw [Nat.mul_one]; exact (toList_madeCells_one _ _).trans (by simp)
    rw [e1] at hown2
    simpa using hown2
  have hb2 : Below w.heap.size w w2 := (Below.refl _ _).grown hg2 (Nat.le_refl _) (fun k hk => by cases hk)
  clear hown2 hg2
  obtain ⟨g, hg⟩ : ∃ g, w.heap.size = g := ⟨_, rfl⟩
  rw [hg] at hrow hb2 ⊢
  have HG := Lib.hid hg
  clear hg
  go_loopw [6] (fun i wr => ∃ j : Nat, j ≤ n ∧ i = .int .i64 j ∧ ownsInts wr g (.slice (some ⟨g, 0, none⟩) k k) (seenP k l j 0) ∧ Below g w wr) (fun i _ => n - (intOf i).toNat)
  case atStart => exact ⟨0, by omega, rfl, hrow, hb2⟩
  case round =>
    obtain ⟨j, hj, rfl, hown, hbw⟩ := hrel
    by_cases hlt : j < n
    · have hdj : decide ((j : Int) < (n : Int)) = true := by simp; omega
      have hgl := (block_of_ownsInts hown (by rw [seenP_length]; omega)).1
      rcases hr with h | ⟨b, o, rfl, hbl, hc⟩
      · have := HN.out; rw [h] at this; simp at this; omega
      obtain ⟨hw0, hw1⟩ := hc j (by rw [HN.out]; exact hlt)
      have hb0 : b < g := by rw [← HG.out]; exact hbl
      obtain ⟨p0, p1, e0, e1, hp0, hp1, t0, t1⟩ := small_at HS.out j (by rw [HN.out]; exact hlt)
      rw [e0] at hw0
      rw [e1] at hw1
      have hsame := fun x => seenP_same k l j x (by rw [HN.out]; exact hlt)
      have hsuc := fun x => orB_succ x l j (by rw [HN.out]; exact hlt)
      have hlt8 := fun x => orB_lt x (l.take j) (fun s hs => small_ofNat HS.out s (List.mem_of_mem_take hs))
      have HT := Lib.hid (seenP_turn k l j)
      unfold orStep at hsuc
      rw [t0] at hsame hsuc
      rw [t1] at hsuc
      have HF := Lib.hid (And.intro hsame (And.intro hsuc hlt8))
      obtain ⟨wo, hwo⟩ : ∃ wo : World, wo = wr := ⟨_, rfl⟩
      subst hwo
      clear hc e0 e1 t0 t1 hsame hsuc hlt8
      go_wp2_with fail
      go_loopw [7] (fun i wq => ∃ x : Nat, x ≤ k ∧ i = .int .i64 x ∧ ownsInts wq g (.slice (some ⟨g, 0, none⟩) k k) (seenP k l j x) ∧ Below g w wq) (fun i _ => k - (intOf i).toNat)
      case atStart => exact ⟨0, by omega, rfl, hown, hbw⟩
      case round =>
        obtain ⟨x, hx, rfl, hownx, hbx⟩ := hrel
        by_cases hlx : x < k
        · have hdx : decide ((x : Int) < (k : Int)) = true := by simp; omega
          have hbit := bit_fact p0 x (by omega)
          have hsame := HF.out.1 x
          have hsuc := HF.out.2.1 x
          have hlt8 := HF.out.2.2 x
          have hget := seenP_getD k l j x hlx
          have hset := seenP_set k l j x hlx
          obtain ⟨hgx, hBg, hcx', hfx'⟩ := block_of_ownsInts hownx (by rw [seenP_length]; omega)
          have hcx := hcx' x (by rw [seenP_length]; exact hlx)
          rw [hget] at hcx
          have hfx := hfx' x
          clear hcx' hfx'
          have hls := seenP_length k l j x
          have hc0 := (hbx.cell (p := ⟨b, o + j * 2, none⟩) hb0).trans hw0
          have hc1 := (hbx.cell (p := ⟨b, o + j * 2 + 1, none⟩) hb0).trans hw1
          generalize p0 / 2 ^ x % 2 = bb at hbit hsame hsuc
          by_cases h1 : bb = 1
          · subst h1
            rw [if_pos rfl] at hsuc
            rw [hsuc] at hset
            generalize orB x (l.take j) = q at hcx hset hlt8
            have hor := or64 q p1 (by omega) (by omega)
            have hown3 := ownsInts_set hownx hls x ((q ||| p1 : Nat) : Int)
            rw [hset] at hown3
            have hb3 : Below g w (wr.setCell ⟨g, x, none⟩ (.int .i64 ((q ||| p1 : Nat) : Int))) := hbx.setCell (Nat.le_refl _) _
            clear hsame hget hset hsuc
            go_wp2_with fail
            go_region_with (fail)
            all_goals
              go_wp2
              go_roundw
              case rel => exact ⟨x + 1, by omega, by go_num, ownsInts_drew hown3, hb3.drew⟩
              case measure => simp [intOf]; omega
          · have hsx := hsame h1
            rw [← hsx] at hownx
            have hbe : (((bb : Nat) : Int) == 1) = false := by rw [beq_eq_false_iff_ne]; omega
            clear hsame hget hset hsuc hsx
            go_wp2
            go_roundw
            case rel => exact ⟨x + 1, by omega, by go_num, hownx, hbx⟩
            case measure => simp [intOf]; omega
        · have hxk : x = k := by omega
          subst hxk
          rw [HT.out] at hownx
          have hdx : decide ((x : Int) < (x : Int)) = false := by simp
          go_wp2
          go_roundw
          case rel => exact ⟨j + 1, by omega, by go_num, hownx, hbx⟩
          case measure => simp [intOf]; omega
    · have hjn : j = n := by omega
      subst hjn
      have hE := HE.out
      rw [HN.out] at hE
      rw [hE] at hown
      go_wp2
      go_ret
      exact ⟨g, rfl, by rw [HG.out]; exact hown, by rw [HG.out]; exact hbw⟩
end Go.Proofs.Ytjcbffkdemadnaa
