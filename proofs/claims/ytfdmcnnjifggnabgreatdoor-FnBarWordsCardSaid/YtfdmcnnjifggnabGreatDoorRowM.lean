/- The contract of the reference's row of a number. -/
import Derived.Test.YtfdmcnnjifggnabGreatDoorRowN
namespace Go.Proofs.YtfdmcnnjifggnabGreatDoor
open Go.RowKit

theorem madeOne (W : World) (B : Nat) (hB : B ≤ W.heap.size) (z : Int) : ownsInts (W.alloc (.cells #[.int .i64 z] 3)) B (.slice (some ⟨W.heap.size, 0, none⟩) 1 1) [z] :=
  .inl (World.ownsRow_lit (base := B) (e := 3) (size := 1) W #[.int .i64 z] 1 hB (by unfold maxLen; omega) rfl)
/-- append of a slice to a new slice of one number. -/
theorem wpPrepend {ops : Array Oper} {rest : List Oper} {o : Oper} {a : Act} {Q : Exit → Act → World → Prop} (w : World) (hgd : o.guard = none) (s x : Operand)
    (ho : o.op = .call { callee := .builtin .append, args := #[s, x], argTypes := #[25, 25] })
    (B : Nat) (z : Int) (hs : a.eval s = .slice (some ⟨w.heap.size, 0, none⟩) 1 1) (v : Value) (T : List Int) (hx : a.eval x = v) (hT : ownsInts w B v T) (h0 : 0 < T.length) (hn : T.length ≤ 1000) (hB : B ≤ w.heap.size)
    (h : ∀ ao cap w', ownsInts w' B (.slice ao (T.length + 1) cap) (z :: T) → Below B w w' → wpList Tryz.prog ops Q rest (a.put o.dst (.slice ao (T.length + 1) cap)) w') :
    wpList Tryz.prog ops Q (o :: rest) a (w.alloc (.cells #[.int .i64 z] 3)) := by
  obtain ⟨i0, hi, hz0, hz1, hz2⟩ := info_parts infoInt
  obtain ⟨ao, cap, rfl, h1 | ⟨g, rfl, hBg, hg, _, hc⟩⟩ := ownsInts_shape hT
  · rw [h1] at h0; simp at h0
  have hone : World.ownsRow (w.alloc (.cells #[.int .i64 z] 3)) B 3 1 (.slice (some ⟨w.heap.size, 0, none⟩) 1 1) 1 [.int .i64 z] :=
    World.ownsRow_lit (base := B) (e := 3) (size := 1) w #[.int .i64 z] 1 hB (by unfold maxLen; omega) rfl
  refine wpList_append_own _ hgd s x 25 ho B 3 i0 (.int .i64 0) 1 8 Tryz.underlying25 hi hz0 hz1 hz2 rfl (by decide) _ 1 [.int .i64 z] hs hone ⟨g, 0, none⟩ T.length cap (T.map (Value.int .i64)) hx (by simp)
    (fun j u hu => by
      have hj : j < T.length := by have := (List.getElem?_eq_some_iff.1 hu).1; simpa using this
      rw [Addr.add_lit, Nat.zero_add, World.cell?_of_block (w := w) (Below.heap_alloc w _ g hg), hc j hj]
      simp only [List.getElem?_map, List.getElem?_eq_getElem hj, Option.map_some, Option.some.injEq] at hu
      rw [← hu, List.getD_eq_getElem?_getD, List.getElem?_eq_getElem hj]; rfl) (by intro u hu; obtain ⟨y, -, rfl⟩ := List.mem_map.1 hu; rfl) (by unfold maxLen; omega) (by omega) (by simp; omega) ?_
  intro v' w' hr hgr _
  obtain ⟨ao2, cap2, rfl, _⟩ := ownsG_shape (.inl hr)
  have hb : Below B w w' := ((Below.refl B w).alloc hB _).grown hgr (by simp; omega) fun k hk => (World.ownsRow.lt hone k hk).1
  have e : 1 + T.length = T.length + 1 := Nat.add_comm _ _
  rw [e] at hr ⊢
  exact h ao2 cap2 w' (.inl (by simpa using hr)) hb
set_option maxHeartbeats 2000000 in
set_option maxRecDepth 100000 in
theorem l2RowOf_any (n : Nat) (hn : n < 1000000) (w : World) : Calls Tryz.prog 53 #[.int .i64 n] w (RetIntsL (rowN n) w) := by
  have HD := Lib.hid (fun d hd W => l2Digit_any d hd W)
  have HLast := Lib.hid (fun q => rowN_last q)
  have hl0 := rowN_last n
  generalize rowN n = L at hl0 ⊢
  have hA1 := @cellAlloc; have hA2 := @frozenAlloc; have hA3 := @setCellAlloc; go_enter Tryz.func53, Tryz.ntmps53
  go_wp2_with (first | (go_at_call 85; refine (HD.out (n % 10) (by omega) _).mono ?_; rintro e w1 ⟨rfl, hb1⟩))
  have ho0 := madeOne w1 w.heap.size hb1.size ((digC (n % 10) : Nat) : Int)
  have hb0 : Below w.heap.size w (w1.alloc (.cells #[.int .i64 ((digC (n % 10) : Nat) : Int)] 3)) := belowThen hb1 (Go.Joins.below_alloc1 _ _)
  go_loopw [0, 3] (fun i v wr => ∃ (q : Nat) (T : List Int), i = .int .i64 q ∧ ownsInts wr w.heap.size v T ∧ L = (if q < 10 then [] else rowN (q / 10)) ++ T ∧ 0 < T.length ∧ T.length ≤ 6 ∧ q < 10 ^ (7 - T.length) ∧ Below w.heap.size w wr) (fun i _ _ => (intOf i).toNat)
  case atStart => exact ⟨n, [((digC (n % 10) : Nat) : Int)], rfl, ho0, hl0, by simp, by simp, by simpa using hn, hb0⟩
  case round =>
    obtain ⟨q, T, rfl, hown, hL, hT0, hT6, hq, hbw⟩ := hrel
    have HL := Lib.hid hL
    clear ho0 hb0 hl0 hL hb1
    by_cases hge : 10 ≤ q
    · have HL2 := HL.out
      rw [if_neg (by omega), HLast.out (q / 10), List.append_assoc] at HL2
      obtain ⟨p, hp⟩ : ∃ p, q / 10 = p := ⟨_, rfl⟩
      have hpI : (q : Int) / 10 = (p : Int) := by omega
      obtain ⟨r, hr⟩ : ∃ r, p % 10 = r := ⟨_, rfl⟩
      have hrI : (p : Int) % 10 = (r : Int) := by omega
      have hr10 : r < 10 := by omega
      rw [hp, hr] at HL2
      have HL3 := Lib.hid HL2
      have hlen : T.length ≤ 5 ∧ p < 10 ^ (7 - (T.length + 1)) := by
        generalize T.length = t at hT0 hT6 hq ⊢
        rcases (by omega : t = 1 ∨ t = 2 ∨ t = 3 ∨ t = 4 ∨ t = 5 ∨ t = 6) with rfl | rfl | rfl | rfl | rfl | rfl <;> simp at hq ⊢ <;> omega
      have hq1 : q < 10 ^ 6 := Nat.lt_of_lt_of_le hq (Nat.pow_le_pow_right (by omega) (by omega))
      have hw : IntKind.i64.wrap ((q : Int) / 10) = (p : Int) := by rw [IntWalk.i64_in _ (by omega)]; exact hpI
      have hgeI : decide ((10 : Int) ≤ (q : Int)) = true := by simp; omega
      have HLen := Lib.hid hlen
      have HT0 := Lib.hid hT0
      clear HL2 hq hlen hT0 hT6
      obtain ⟨co0, cc0, hv0, -⟩ := ownsInts_shape hown
      subst hv0
      go_wp2_with (first | (go_at_call 85; refine (HD.out r hr10 _).mono ?_; rintro e w2 ⟨rfl, hb2⟩) | (at_builtin; go_must (refine wpPrepend w2 (by rfl) _ _ (by rfl) w.heap.size ((digC r : Nat) : Int) (by rfl) _ T (by rfl) (ownsInts_below hown hb2 (Nat.le_refl _)) HT0.out (by have := HLen.out.1; omega) (Nat.le_trans hbw.size hb2.size) ?_; intro co cc w4 hv4 hb4)))
      go_roundw
      case rel => exact ⟨p, ((digC r : Nat) : Int) :: T, rfl, hv4, by simpa using HL3.out, by simp, by have := HLen.out.1; simp; omega, by simpa using HLen.out.2, (belowThen hbw hb2).trans hb4⟩
      case measure => simp [intOf]; omega
    · have HL2 := HL.out
      rw [if_pos (by omega), List.nil_append] at HL2
      subst HL2
      obtain ⟨co, cc, rfl, -⟩ := ownsInts_shape hown
      have hltI : decide ((10 : Int) ≤ (q : Int)) = false := by simp; omega
      clear hq hT0 hT6
      go_wp2
      go_ret
      exact ⟨co, cc, rfl, hown, hbw⟩
end Go.Proofs.YtfdmcnnjifggnabGreatDoor
