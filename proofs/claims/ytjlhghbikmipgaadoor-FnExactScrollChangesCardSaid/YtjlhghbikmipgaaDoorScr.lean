/- Slices of rows of one length, each in a block of its own. -/
import Derived.Test.YtjlhghbikmipgaaDoorOwnRows
import Derived.Test.YtjlhghbikmipgaaDoorMarks
import Derived.Test.YtjlhghbikmipgaaDoorMark
import Derived.Test.YtjlhghbikmipgaaDoorHeld
import Derived.Test.YtjlhghbikmipgaaDoorEqS
import Derived.Lib.Hide
import Derived.Deep.RegionHeld3
namespace Go.Proofs.YtjlhghbikmipgaaDoor
open Go.RowKit

/-- The slice value v owns m rows of K numbers each; row i lies in the block gs i alone, and holds R i. -/
def scr (w : World) (B : Nat) (v : Value) (m K : Nat) (gs : Nat → Nat) (R : Nat → List Int) : Prop :=
  ownsG w B 25 1 v m ((List.range m).map fun i => Value.slice (some ⟨gs i, 0, none⟩) K K) ∧
  (∀ i, i < m → B ≤ gs i ∧ gs i < w.heap.size ∧ (R i).length = K ∧ ownsInts w B (.slice (some ⟨gs i, 0, none⟩) K K) (R i)) ∧ (∀ i j, i < j → j < m → gs i < gs j)
theorem scr_below {w w' : World} {B C : Nat} {v : Value} {m K : Nat} {gs : Nat → Nat} {R : Nat → List Int} (h : scr w B v m K gs R) (hb : Below w.heap.size w w') (hC : C ≤ B) : scr w' C v m K gs R :=
  ⟨ownsG_below h.1 hb hC, fun i hi => by
    obtain ⟨h1, h2, h3, h4⟩ := h.2.1 i hi
    exact ⟨by omega, Nat.lt_of_lt_of_le h2 hb.size, h3, ownsInts_below h4 hb hC⟩, h.2.2⟩
theorem scr_nil (w : World) (B K : Nat) (gs : Nat → Nat) (R : Nat → List Int) : scr w B (.slice none 0 0) 0 K gs R := ⟨.inl (World.ownsRow_nil w B _ _), fun i hi => by omega, fun i j _ hj => by omega⟩
theorem scr_zero (w : World) (B K : Nat) (a : Addr) (gs : Nat → Nat) (R : Nat → List Int) : scr w B (.slice (some a) 0 0) 0 K gs R := ⟨.inr ⟨rfl, rfl, a, rfl⟩, fun i hi => by omega, fun i j _ hj => by omega⟩
theorem scr_congr {w : World} {B : Nat} {v : Value} {m K : Nat} {gs : Nat → Nat} {R R' : Nat → List Int} (h : scr w B v m K gs R) (e : ∀ i, i < m → R i = R' i) : scr w B v m K gs R' :=
  ⟨h.1, fun i hi => by rw [← e i hi]; exact h.2.1 i hi, h.2.2⟩
theorem ownsG_block {w : World} {B : Nat} {e : TypeId} {size : Nat} {v : Value} {n : Nat} {xs : List Value} (h : ownsG w B e size v n xs) (hn : 0 < n) : ∃ g cap cur, v = .slice (some ⟨g, 0, none⟩) n cap ∧ B ≤ g ∧ w.heap[g]? = some (.cells cur e (0, 0)) := by
  rcases h with h | ⟨rfl, _⟩
  · rcases h.2 with ⟨rfl, _⟩ | ⟨g, cap, cur, hv, hBg, hg, _⟩
    · omega
    · exact ⟨g, cap, cur, hv, hBg, hg⟩
  · omega
theorem ownsG_heap {w w' : World} {B : Nat} {e : TypeId} {size : Nat} {g n cap : Nat} {xs : List Value} (h : ownsG w B e size (.slice (some ⟨g, 0, none⟩) n cap) n xs) (hk : w'.heap[g]? = w.heap[g]?) : ownsG w' B e size (.slice (some ⟨g, 0, none⟩) n cap) n xs := by
  rcases h with h | h
  · refine .inl ⟨h.1, ?_⟩
    rcases h.2 with h2 | ⟨g', cap', cur, hv, hBg, hg, r⟩
    · exact .inl h2
    · have hv2 := hv
      simp only [Value.slice.injEq, Option.some.injEq, Addr.mk.injEq] at hv2
      obtain ⟨⟨rfl, -⟩, -⟩ := hv2
      exact .inr ⟨g, cap', cur, hv, hBg, by rw [hk]; exact hg, r⟩
  · exact .inr h
theorem ownsInts_heap {w w' : World} {B g n cap : Nat} {L : List Int} (hn : L.length = n) (h : ownsInts w B (.slice (some ⟨g, 0, none⟩) n cap) L) (hk : w'.heap[g]? = w.heap[g]?) : ownsInts w' B (.slice (some ⟨g, 0, none⟩) n cap) L := by
  subst hn
  exact ownsG_heap h hk
theorem ownsInts_raise {w : World} {B C g n cap : Nat} {L : List Int} (h : ownsInts w B (.slice (some ⟨g, 0, none⟩) n cap) L) (hC : C ≤ g) : ownsInts w C (.slice (some ⟨g, 0, none⟩) n cap) L := by
  rcases h with h | h
  · refine .inl ⟨h.1, ?_⟩
    rcases h.2 with h2 | ⟨g', cap', cur, hv, hBg, hg, r⟩
    · exact .inl h2
    · have hv2 := hv
      simp only [Value.slice.injEq, Option.some.injEq, Addr.mk.injEq] at hv2
      obtain ⟨⟨rfl, -⟩, -⟩ := hv2
      exact .inr ⟨g, cap', cur, hv, hC, hg, r⟩
  · exact .inr h
/-- What is read of such rows. -/
theorem scr_read {w : World} {B : Nat} {v : Value} {m K : Nat} {gs : Nat → Nat} {R : Nat → List Int} (h : scr w B v m K gs R) : ∃ ao cap, v = .slice ao m cap ∧
    (m = 0 ∨ ∃ g, ao = some ⟨g, 0, none⟩ ∧ B ≤ g ∧ g < w.heap.size ∧ (∀ i, i < m → w.cell? ⟨g, i, none⟩ = some (.slice (some ⟨gs i, 0, none⟩) K K) ∧ RdI w (some ⟨gs i, 0, none⟩) (R i) ∧ (R i).length = K)) := by
  obtain ⟨ao, cap, rfl, ⟨hn, _⟩ | ⟨g, rfl, hb, hg, hc, hcell, _⟩⟩ := ownsG_shape h.1
  · exact ⟨ao, cap, rfl, .inl hn⟩
  · refine ⟨_, cap, rfl, .inr ⟨g, rfl, hb, hg, fun i hi => ?_⟩⟩
    obtain ⟨h1, h2, h3, h4⟩ := h.2.1 i hi
    refine ⟨?_, ?_, h3⟩
    · rw [hcell i (by omega)]
      simp [hi]
    · subst h3
      exact RdI_owns h4
/-- append of one row. -/
theorem wpAppendScr {ops : Array Oper} {rest : List Oper} {o : Oper} {a : Act} {Q : Exit → Act → World → Prop} (w : World) (hgd : o.guard = none) (s x : Operand)
    (ho : o.op = .call { callee := .builtin .append, args := #[s, x], argTypes := #[32, 32] })
    (B : Nat) (v : Value) (m K : Nat) (gs : Nat → Nat) (R : Nat → List Int) (hs : a.eval s = v) (hown : scr w B v m K gs R) (g : Nat) (hu : ownsInts w B (.slice (some ⟨g, 0, none⟩) K K) (R m)) (hl : (R m).length = K) (hBg : B ≤ g) (hg : g < w.heap.size) (hlast : ∀ i, i < m → gs i < g)
    (hx : a.eval x = .slice (some ⟨w.heap.size, 0, none⟩) 1 1)
    (hn : m ≤ 1000000000) (hB : B ≤ w.heap.size)
    (h : ∀ ao cap w', scr w' B (.slice ao (m + 1) cap) (m + 1) K (fun i => if i < m then gs i else g) R → Below B w w' → wpList Tryd.prog ops Q rest (a.put o.dst (.slice ao (m + 1) cap)) w') :
    wpList Tryd.prog ops Q (o :: rest) a (w.alloc (.cells #[.slice (some ⟨g, 0, none⟩) K K] 25)) := by
  refine wpAppendG w hgd s x _ _ (.slice none 0 0) 1 24 ho Tryd.underlying32 infoInts rfl (by decide) (by decide) B v m _ hs hown.1 [.slice (some ⟨g, 0, none⟩) K K] _ hx rfl (by simp [Value.oneCell']) hn hB ?_
  intro ao cap w' hr hb hk
  refine h ao cap w' ⟨?_, fun i hi => ?_, fun i j hij hj => ?_⟩ hb
  · have : (List.range (m + 1)).map (fun i => Value.slice (some ⟨if i < m then gs i else g, 0, none⟩) K K) = (List.range m).map (fun i => Value.slice (some ⟨gs i, 0, none⟩) K K) ++ [.slice (some ⟨g, 0, none⟩) K K] := by
      rw [List.range_succ, List.map_append]
      congr 1
      · apply List.map_congr_left
        intro i hi
        rw [if_pos (List.mem_range.1 hi)]
      · simp
    rw [this]
    exact hr
  · by_cases hlt : i < m
    · obtain ⟨h1, h2, h3, h4⟩ := hown.2.1 i hlt
      dsimp only
      rw [if_pos hlt]
      exact ⟨h1, Nat.lt_of_lt_of_le h2 hb.size, h3, ownsInts_apart (by decide) h4 hk⟩
    · have : i = m := by omega
      subst this
      dsimp only
      rw [if_neg (by omega)]
      exact ⟨hBg, Nat.lt_of_lt_of_le hg hb.size, hl, ownsInts_apart (by decide) hu hk⟩
  · dsimp only
    rw [if_pos (by omega)]
    by_cases hlt : j < m
    · rw [if_pos hlt]; exact hown.2.2 i j hij hlt
    · rw [if_neg hlt]; exact hlast i (by omega)
set_option maxHeartbeats 400000 in
theorem markIntS_keep (g n : Nat) (L : List Int) (k0 : Int) (w : World) (ho : ownsInts w g (.slice (some ⟨g, 0, none⟩) n n) L) (hn : L.length = n) (hm : n ≤ maxLen) (hk : 0 ≤ k0) (hk2 : k0 + n ≤ 9223372036854775807) :
    Calls Tryd.prog 17 #[.slice (some ⟨g, 0, none⟩) n n, .int .i64 k0] w fun e w' => e = .returned (.int .i64 (k0 + n)) ∧ ownsInts w' g (.slice (some ⟨g, 0, none⟩) n n) (marksL k0 n) ∧ Below g w w' ∧ ∀ b, b ≠ g → w'.heap[b]? = w.heap[b]? := by
  unfold maxLen at hm
  go_enter Tryd.func17, Tryd.ntmps17
  go_wp2
  go_loopw [1, 5] (fun m i wr => ∃ k : Nat, k ≤ n ∧ i = .int .i64 k ∧ m = .int .i64 (k0 + k) ∧ ownsInts wr g (.slice (some ⟨g, 0, none⟩) n n) (marksP k0 L k) ∧ Below g w wr ∧ ∀ b, b ≠ g → wr.heap[b]? = w.heap[b]?) (fun _ i _ => n - (intOf i).toNat)
  case atStart => exact ⟨0, by omega, rfl, by simp, by simpa [marksP] using ho, Below.refl _ _, fun _ _ => rfl⟩
  case round =>
    obtain ⟨k, hle, rfl, rfl, hown, hbw, hkeep⟩ := hrel
    by_cases hlt : k < n
    · have hlen := marksP_length k0 L k (by omega)
      obtain ⟨ao', cap', he, hL | ⟨g', rfl, hBg, hg, _, hc⟩⟩ := ownsInts_shape hown
      · rw [hL] at hlen; simp at hlen; omega
      simp only [Value.slice.injEq, Option.some.injEq, Addr.mk.injEq] at he
      obtain ⟨⟨rfl, -⟩, -⟩ := he
      have hcell := hc k (by omega)
      have hfr : wr.frozen? ⟨g, k, none⟩ = false := ownsInts_frozen hown (by omega) k
      have hset := ownsInts_set hown (by omega) k (k0 + k)
      rw [marksP_succ k0 L k (by omega)] at hset
      have hbs : Below g w (wr.setCell ⟨g, k, none⟩ (.int .i64 (k0 + k))) := hbw.setCell (Nat.le_refl _) _
      have hks : ∀ b, b ≠ g → (wr.setCell ⟨g, k, none⟩ (.int .i64 (k0 + k))).heap[b]? = w.heap[b]? := fun b hb => by rw [Below.heap_setCell _ _ _ _ (by simpa using hb)]; exact hkeep b hb
      have HK := Lib.hid hks
      clear ho hc hown hn hlen hkeep hks
      go_wp2
      go_roundw
      case rel => exact ⟨k + 1, by omega, by go_num, by go_num, hset, hbs, HK.out⟩
      case measure => simp [intOf]; omega
    · have hkn : k = n := by omega
      subst hkn
      have HK := Lib.hid hkeep
      clear hkeep
      go_wp2
      go_ret
      exact ⟨rfl, by rw [← hn, ← marksP_all, hn]; exact hown, hbw, HK.out⟩
/-- The marks of m rows. -/
def marksR (k0 : Int) (K i : Nat) : List Int := marksL (k0 + ((i * K : Nat) : Int)) K
def markRow (k0 : Int) (K i : Nat) (R : Nat → List Int) (j : Nat) : List Int := if j < i then marksR k0 K j else R j
theorem scr_mark {w w' : World} {B : Nat} {v : Value} {m K : Nat} {gs : Nat → Nat} {R R' : Nat → List Int} (h : scr w B v m K gs R) (i : Nat) (hi : i < m) (hK : 0 < K) (hb : Below B w w') (hk : ∀ b, b ≠ gs i → w'.heap[b]? = w.heap[b]?)
    (hrow : ownsInts w' (gs i) (.slice (some ⟨gs i, 0, none⟩) K K) (R' i)) (hl : (R' i).length = K) (hR : ∀ j, j ≠ i → R' j = R j) : scr w' B v m K gs R' := by
  obtain ⟨g, cap, cur, rfl, hBg, hg⟩ := ownsG_block h.1 (by omega)
  obtain ⟨hi1, hi2, hi3, hi4⟩ := h.2.1 i hi
  have hne : g ≠ gs i := by
    intro he
    have h4' : ownsG w B 3 1 (.slice (some ⟨gs i, 0, none⟩) K K) (R i).length ((R i).map (Value.int .i64)) := hi4
    obtain ⟨g2, cap2, cur2, hv2, _, hg2⟩ := ownsG_block h4' (by omega)
    simp only [Value.slice.injEq, Option.some.injEq, Addr.mk.injEq] at hv2
    obtain ⟨⟨h5, -⟩, -⟩ := hv2
    rw [← h5, ← he, hg] at hg2
    simp only [Option.some.injEq, Obj.cells.injEq] at hg2
    exact absurd hg2.2.1 (by decide)
  refine ⟨ownsG_heap h.1 (hk g hne), fun j hj => ?_, h.2.2⟩
  obtain ⟨h1, h2, h3, h4⟩ := h.2.1 j hj
  by_cases hij : j = i
  · subst hij
    exact ⟨h1, Nat.lt_of_lt_of_le h2 hb.size, hl, ownsInts_raise hrow h1⟩
  · rw [hR j hij]
    refine ⟨h1, Nat.lt_of_lt_of_le h2 hb.size, h3, ownsInts_heap h3 h4 (hk _ ?_)⟩
    rcases Nat.lt_or_gt_of_ne hij with hlt | hlt
    · exact Nat.ne_of_lt (h.2.2 j i hlt hi)
    · exact Nat.ne_of_gt (h.2.2 i j hlt hj)
set_option maxHeartbeats 800000 in
theorem markIntSS_any (B : Nat) (ao : Option Addr) (m cap K : Nat) (gs : Nat → Nat) (R : Nat → List Int) (k0 : Int) (w : World) (ho : scr w B (.slice ao m cap) m K gs R) (hK : 0 < K) (hm : m ≤ 1000) (hK2 : K ≤ 1000) (hk : 0 ≤ k0) (hk2 : k0 ≤ 1000) :
    Calls Tryd.prog 26 #[.slice ao m cap, .int .i64 k0] w fun e w' => e = .returned (.int .i64 (k0 + ((m * K : Nat) : Int))) ∧ scr w' B (.slice ao m cap) m K gs (marksR k0 K) ∧ Below B w w' := by
  go_enter Tryd.func26, Tryd.ntmps26
  go_wp2
  go_loopw [1, 5] (fun q i wr => ∃ k : Nat, k ≤ m ∧ i = .int .i64 k ∧ q = .int .i64 (k0 + ((k * K : Nat) : Int)) ∧ scr wr B (.slice ao m cap) m K gs (markRow k0 K k R) ∧ Below B w wr) (fun _ i _ => m - (intOf i).toNat)
  case atStart => exact ⟨0, by omega, rfl, by simp, scr_congr ho fun i hi => by unfold markRow; rw [if_neg (Nat.not_lt_zero i)], Below.refl _ _⟩
  case round =>
    obtain ⟨k, hle, rfl, rfl, hown, hbw⟩ := hrel
    by_cases hlt : k < m
    · obtain ⟨ao', cap', he, h0 | ⟨g, rfl, hBg, hg, hcells⟩⟩ := scr_read hown
      · omega
      simp only [Value.slice.injEq] at he
      obtain ⟨rfl, -, -⟩ := he
      obtain ⟨hx, -, -⟩ := hcells k hlt
      obtain ⟨r1, r2, r3, r4⟩ := hown.2.1 k hlt
      have HM := Lib.hid (fun h1 h2 => markIntS_keep (gs k) K (markRow k0 K k R k) (k0 + ((k * K : Nat) : Int)) wr (ownsInts_raise r4 (Nat.le_refl _)) r3 (by unfold maxLen; omega) h1 h2)
      have hkK : k * K ≤ 1000000 := Nat.mul_le_mul (by omega : k ≤ 1000) hK2
      have hs1 : k0 + ((k * K : Nat) : Int) + (K : Int) = k0 + (((k + 1) * K : Nat) : Int) := by rw [Nat.succ_mul]; omega
      have HM2 := Lib.hid (HM.out (by omega) (by omega))
      rw [hs1] at HM2
      have HO := Lib.hid hown
      clear ho hown hcells HM r4
      generalize hq : k0 + ((k * K : Nat) : Int) = q0 at *
      have HQ := Lib.hid hq
      clear hq
      go_wp2_with (first | (go_at_call 17; refine HM2.out.mono ?_; rintro e w1 ⟨rfl, ho1, hb1, hk1⟩; have HK1 := Lib.hid hk1; clear hk1))
      go_roundw
      case rel =>
        refine ⟨k + 1, by omega, by go_num, by simp, scr_mark HO.out k hlt hK (hb1.mono r1) HK1.out ?_ ?_ fun j hj => ?_, hbw.trans (hb1.mono r1)⟩
        · unfold markRow marksR
          rw [if_pos (Nat.lt_succ_self k), HQ.out]
          exact ho1
        · unfold markRow
          rw [if_pos (Nat.lt_succ_self k)]
          exact marksL_length _ _
        · unfold markRow
          by_cases h : j < k
          · rw [if_pos h, if_pos (by omega)]
          · rw [if_neg h, if_neg (by omega)]
      case measure => simp [intOf]; omega
    · have hkn : k = m := by omega
      subst hkn
      have HO := Lib.hid hown
      clear ho hown
      go_wp2
      go_ret
      exact ⟨rfl, scr_congr HO.out fun i hi => by unfold markRow; rw [if_pos hi], hbw⟩
set_option maxHeartbeats 800000 in
theorem heldIntSS_any (B : Nat) (ao : Option Addr) (m cap K : Nat) (gs : Nat → Nat) (k0 : Int) (w : World) (ho : scr w B (.slice ao m cap) m K gs (marksR k0 K)) (hm : m ≤ 1000) (hK2 : K ≤ 1000) (hk : 0 ≤ k0) (hk2 : k0 ≤ 1000) :
    Calls Tryd.prog 27 #[.slice ao m cap, .int .i64 k0] w fun e w' => e = .returned (.int .i64 (k0 + ((m * K : Nat) : Int))) ∧ w = w' := by
  go_enter Tryd.func27, Tryd.ntmps27
  go_wp2
  go_loop [1, 5] (fun q i => ∃ k : Nat, k ≤ m ∧ i = .int .i64 k ∧ q = .int .i64 (k0 + ((k * K : Nat) : Int))) (fun _ i => m - (intOf i).toNat)
  case atStart => exact ⟨0, by omega, rfl, by simp⟩
  case round =>
    obtain ⟨k, hle, rfl, rfl⟩ := hrel
    by_cases hlt : k < m
    · obtain ⟨ao', cap', he, h0 | ⟨g, rfl, hBg, hg, hcells⟩⟩ := scr_read ho
      · omega
      simp only [Value.slice.injEq] at he
      obtain ⟨rfl, -, -⟩ := he
      obtain ⟨hx, hrd, hl⟩ := hcells k hlt
      have hkK : k * K ≤ 1000000 := Nat.mul_le_mul (by omega : k ≤ 1000) hK2
      have hs1 : k0 + ((k * K : Nat) : Int) + (K : Int) = k0 + (((k + 1) * K : Nat) : Int) := by rw [Nat.succ_mul]; omega
      have HM := Lib.hid (heldIntS_any (some ⟨gs k, 0, none⟩) K K (k0 + ((k * K : Nat) : Int)) w hrd (by unfold maxLen; omega) (by omega) (by omega))
      rw [hs1] at HM
      have hpos : 0 ≤ k0 + (((k + 1) * K : Nat) : Int) := by omega
      clear ho hcells hrd hl
      generalize hq : k0 + ((k * K : Nat) : Int) = q0 at *
      have HQ := Lib.hid hq
      clear hq
      generalize hq2 : k0 + (((k + 1) * K : Nat) : Int) = q1 at *
      have HQ2 := Lib.hid hq2
      clear hq2
      go_wp2_with (first | (go_at_call 18; refine HM.out.mono ?_; rintro e w1 ⟨rfl, rfl⟩))
      go_round
      case rel => exact ⟨k + 1, by omega, by go_num, by rw [← HQ2.out]⟩
      case measure => simp [intOf]; omega
    · have hkn : k = m := by omega
      subst hkn
      go_wp2
      go_ret
      exact ⟨rfl, rfl⟩
theorem keepSS {wr W w2 : World} {b1 o1 b2 o2 : Nat} {x1 x2 : Option Value} (hB1 : b1 < wr.heap.size) (hB2 : b2 < wr.heap.size)
    (h : W.cell? ⟨b1, o1, none⟩ = x1 ∧ W.cell? ⟨b2, o2, none⟩ = x2 ∧ Below wr.heap.size wr W) (hb : Below W.heap.size W w2) :
    w2.cell? ⟨b1, o1, none⟩ = x1 ∧ w2.cell? ⟨b2, o2, none⟩ = x2 ∧ Below wr.heap.size wr w2 := by
  have hs := h.2.2.size
  exact ⟨(hb.cell (p := ⟨b1, o1, none⟩) (by show b1 < _; omega)).trans h.1, (hb.cell (p := ⟨b2, o2, none⟩) (by show b2 < _; omega)).trans h.2.1, belowThen h.2.2 hb⟩
set_option maxHeartbeats 800000 in
theorem eqIntSS_same (B C : Nat) (ao bo : Option Addr) (m ca cb K : Nat) (gs hs : Nat → Nat) (R : Nat → List Int) (w : World) (ha : scr w B (.slice ao m ca) m K gs R) (hb : scr w C (.slice bo m cb) m K hs R) (hm : m ≤ 1000) (hK2 : K ≤ 1000) :
    Calls Tryd.prog 25 #[.slice ao m ca, .slice bo m cb] w fun e w' => e = .returned (.bool true) ∧ Below w.heap.size w w' := by
  have hA1 := @cellAlloc; have hA2 := @frozenAlloc; have hA3 := @setCellAlloc; go_enter Tryd.func25, Tryd.ntmps25
  go_wp2
  go_loopw [5] (fun i wr => ∃ k : Nat, k ≤ m ∧ i = .int .i64 k ∧ Below w.heap.size w wr) (fun i _ => m - (intOf i).toNat)
  case atStart => exact ⟨0, by omega, rfl, Below.refl _ _⟩
  case round =>
    obtain ⟨k, hk, rfl, hbw⟩ := hrel
    by_cases hlt : k < m
    · obtain ⟨ao', cap', he, h0 | ⟨g, rfl, hBg, hg, hcells⟩⟩ := scr_read (scr_below ha hbw (Nat.le_refl _))
      · omega
      simp only [Value.slice.injEq] at he
      obtain ⟨rfl, -, -⟩ := he
      obtain ⟨bo', cap'', he, h0 | ⟨g2, rfl, hBg2, hg2, hcells2⟩⟩ := scr_read (scr_below hb hbw (Nat.le_refl _))
      · omega
      simp only [Value.slice.injEq] at he
      obtain ⟨rfl, -, -⟩ := he
      obtain ⟨hx, hrd, hl⟩ := hcells k hlt
      obtain ⟨hy, hrd2, -⟩ := hcells2 k hlt
      have HM := Lib.hid (fun W (hW : Below wr.heap.size wr W) => eqIntS_same (some ⟨gs k, 0, none⟩) (some ⟨hs k, 0, none⟩) K K K (R k) W (RdI_below hrd hW) (RdI_below hrd2 hW) hl (by unfold maxLen; omega))
      clear ha hb hcells hcells2 hrd hrd2 hl
      generalize gs k = u1 at hx HM
      generalize hs k = u2 at hy HM
      have hki : (k : Int) < (m : Int) := by omega
      go_wp2_with fail
      go_region_held3 (fun w' => w'.cell? ⟨g, k, none⟩ = some (.slice (some ⟨u1, 0, none⟩) K K) ∧ w'.cell? ⟨g2, k, none⟩ = some (.slice (some ⟨u2, 0, none⟩) K K) ∧ Below wr.heap.size wr w') (first | assumption | exact ⟨hx, hy, (Below.refl _ _).drew⟩ | exact keepSS hg hg2 ‹_› ‹_›) (first | (go_at_call 16; refine (HM.out _ (by obtain ⟨_, _, hh⟩ := ‹_ ∧ _ ∧ Below _ _ _›; exact hh)).mono ?_; rintro e w2 ⟨rfl, hb5⟩))
      rename_i hH
      have hbn := hH.2.2
      clear hH
      go_wp2
      go_roundw
      case rel => exact ⟨k + 1, by omega, by go_num, belowThen hbw hbn⟩
      case measure => simp [intOf]; omega
    · go_wp2
      go_ret
      exact ⟨rfl, hbw⟩
end Go.Proofs.YtjlhghbikmipgaaDoor
