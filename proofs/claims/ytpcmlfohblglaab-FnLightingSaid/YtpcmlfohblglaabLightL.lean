/- Contracts of the law's own helpers: of its bound on codes, of its comparing of pairs, of its copy of a list. -/
import Derived.Test.YtpcmlfohblglaabCur
import Derived.Test.YtpcmlfohblglaabPairs
import Derived.Test.YtpcmlfohblglaabEqP
import Derived.Lib.Hide
import Derived.ArgAppend
namespace Go.Proofs.Ytpcmlfohblglaab
open Go.RowKit

set_option maxHeartbeats 400000 in
theorem rPairs_same (ao bo : Option Addr) (n ca cb : Nat) (F : List Int) (w : World) (ha : RdI w ao F) (hb : RdI w bo F) (hn : F.length = n * 2) (hm : n ≤ maxLen) :
    Calls Try.prog 10 #[.slice ao n ca, .slice bo n cb] w fun e w' => e = .returned (.bool true) ∧ Below w.heap.size w w' := by
  unfold maxLen at hm
  have hnq := neqPair
  have hgp := guardPair
  have hA1 := @cellAlloc; have hA2 := @frozenAlloc; have hA3 := @setCellAlloc; go_enter Try.func10, Try.ntmps10
  go_wp2
  go_loopw [5] (fun i wr => ∃ k : Nat, k ≤ n ∧ i = .int .i64 k ∧ Below w.heap.size w wr) (fun i _ => n - (intOf i).toNat)
  case atStart => exact ⟨0, by omega, rfl, Below.refl _ _⟩
  case round =>
    obtain ⟨k, hk, rfl, hbw⟩ := hrel
    by_cases hlt : k < n
    · have ha' := RdI_below ha hbw
      have hb' := RdI_below hb hbw
      rcases ha' with h | ⟨b1, o1, rfl, hb1, hc1⟩
      · rw [h] at hn; simp at hn; omega
      rcases hb' with h | ⟨b2, o2, rfl, hb2, hc2⟩
      · rw [h] at hn; simp at hn; omega
      have hx0 := hc1 (k * 2) (by omega)
      have hx1 := hc1 (k * 2 + 1) (by omega)
      have hy0 := hc2 (k * 2) (by omega)
      have hy1 := hc2 (k * 2 + 1) (by omega)
      rw [← Nat.add_assoc] at hx1 hy1
      generalize F.getD (k * 2) 0 = z0 at hx0 hy0
      generalize F.getD (k * 2 + 1) 0 = z1 at hx1 hy1
      clear hc1 hc2 ha hb hn
      go_wp2_with fail
      go_quiet (fail)
      go_wp2
      go_roundw
      case rel => exact ⟨k + 1, by omega, by go_num, belowThen hbw (Go.Joins.below_draws _ _ _)⟩
      case measure => simp [intOf]; omega
    · go_wp2
      go_ret
      exact ⟨rfl, hbw⟩
theorem rBig_any (ao : Option Addr) (n cap : Nat) (w : World) : Calls Try.prog 4 #[.slice ao n cap] w fun e w' => e = .returned (.bool (decide ((65536 : Int) < (n : Int)))) ∧ w = w' := by
  go_enter Try.func4, Try.ntmps4
  go_wp2
  go_ret
  exact ⟨rfl, rfl⟩
/-- A list is appended to an empty one. -/
theorem runSpreadI (W : World) (ty : TypeId) (a0 : Addr) (p : Option Addr) (c : Nat) (L : List Int) (hm : L.length ≤ 1000) (hp : RdI W p L) :
    ∃ ao cap w', (Builtin.append_ #[24, 24] ty #[.slice (some a0) 0 0, .slice p L.length c]).run Try.prog W = .ok (.slice ao L.length cap) w' ∧ ownsInts w' W.heap.size (.slice ao L.length cap) L ∧ Below W.heap.size W w' := by
  obtain ⟨i0, hi, hz0, hz1, hz2⟩ := info_parts infoInt
  by_cases h0 : L = []
  · subst h0
    refine ⟨some a0, 0, W, ?_, .inr ⟨rfl, rfl, a0, rfl⟩, Below.refl _ _⟩
    show (Builtin.append_ #[24, 24] ty #[.slice (some a0) 0 0, .slice p 0 c]).run Try.prog W = .ok (.slice (some a0) 0 0) W
    cases p <;> simp [Builtin.append_, run_underlying Try.underlying24, sizeOf, typeInfo, hi, Builtin.lenOf, Builtin.firstCells, loadCells, loadCellsFrom, storeCells]
  · rcases hp with hp | ⟨b, o, rfl, hb, hc⟩
    · exact absurd hp h0
    have hl0 : 0 < L.length := List.length_pos_iff.2 h0
    obtain ⟨v', w', hr, r1, r2⟩ := run_append_arg_grows (P := Try.prog) W 24 ty 3 i0 (.int .i64 0) 1 8 Try.underlying24 hi hz0 hz1 hz2 rfl (by decide) a0 0 0 [] rfl (by intro j u2 h; simp at h) ⟨b, o, none⟩ L.length c (L.map (Value.int .i64)) (by simp) (fun j u hu => by
      have hj : j < L.length := by have := (List.getElem?_eq_some_iff.1 hu).1; simpa using this
      rw [Addr.add_lit, hc j hj]
      simp [hj] at hu
      simp [hj, hu]) (by omega) (by unfold maxLen; omega) (by omega)
    rcases r1.2 with ⟨_, h9⟩ | ⟨g, cap, cur, rfl, hBg, h9⟩
    · omega
    · rw [Nat.zero_add] at hr r1
      exact ⟨_, cap, w', hr, .inl (by simpa using r1), (Below.refl _ W).grown r2 (Nat.le_refl _) (fun k hk => by cases hk)⟩
theorem stepSpreadI {rest : List Oper} {ops : Array Oper} {o : Oper} {a : Act} {Q : Exit → Act → World → Prop} (w : World) (hgd : o.guard = none) (s x : Operand)
    (ho : o.op = .call { callee := .builtin .append, args := #[s, x], argTypes := #[24, 24] }) (a0 : Addr) (p : Option Addr) (n c : Nat) (L : List Int) (hs : a.eval s = .slice (some a0) 0 0) (hx : a.eval x = .slice p n c) (hn : L.length = n) (hm : L.length ≤ 1000) (hp : RdI w p L)
    (h : ∀ ao cap w', ownsInts w' w.heap.size (.slice ao n cap) L → Below w.heap.size w w' → wpList Try.prog ops Q rest (a.put o.dst (.slice ao n cap)) w') : wpList Try.prog ops Q (o :: rest) a w := by
  subst hn
  refine wpList_plain hgd fun K hK' => ?_
  obtain ⟨ao, cap, w', hrun, h3, h4⟩ := runSpreadI w o.type a0 p c L hm hp
  unfold Oper.wp
  simp [execOp, ho, resolve, invoke, builtin, hs, hx, hrun, Result.andThen]
  exact hK' _ _ (h ao cap w' h3 h4)
end Go.Proofs.Ytpcmlfohblglaab
