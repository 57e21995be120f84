/- Contracts of the law's own cut of a code, and of its comparing of pairs. -/
import Derived.Test.YtpcmlfohblglaaaCur
import Derived.Test.YtpcmlfohblglaaaPairs
import Derived.Test.YtpcmlfohblglaaaEqP
import Derived.Test.YtpcmlfohblglaaaOwnV
import Derived.ArgAppend
import Derived.Lib.Hide
namespace Go.Proofs.Ytpcmlfohblglaaa
open Go.RowKit

set_option maxHeartbeats 400000 in
theorem vPairs_same (ao bo : Option Addr) (n ca cb : Nat) (F : List Int) (w : World) (ha : RdI w ao F) (hb : RdI w bo F) (hn : F.length = n * 2) (hm : n ≤ maxLen) :
    Calls Try.prog 18 #[.slice ao n ca, .slice bo n cb] w fun e w' => e = .returned (.bool true) ∧ Below w.heap.size w w' := by
  unfold maxLen at hm
  have hnq := neqPair
  have hgp := guardPair
  have hA1 := @cellAlloc; have hA2 := @frozenAlloc; have hA3 := @setCellAlloc; go_enter Try.func18, Try.ntmps18
  go_wp2
  go_loopw [5] (fun i wr => ∃ k : Nat, k ≤ n ∧ i = .int .i64 k ∧ Below w.heap.size w wr) (fun i _ => n - (intOf i).toNat)
  case atStart => exact ⟨0, by omega, rfl, Below.refl _ _⟩
  case round =>
    obtain ⟨k, hk, rfl, hbw⟩ := hrel
    by_cases hlt : k < n
    · have ha' := RdI_below ha hbw
      have hb' := RdI_below hb hbw
      rcases ha' with h | ⟨b1, o1, rfl, hb1, hc1⟩
      · rw [h] at hn; simp at hn; omega
      rcases hb' with h | ⟨b2, o2, rfl, hb2, hc2⟩
      · rw [h] at hn; simp at hn; omega
      have hx0 := hc1 (k * 2) (by omega)
      have hx1 := hc1 (k * 2 + 1) (by omega)
      have hy0 := hc2 (k * 2) (by omega)
      have hy1 := hc2 (k * 2 + 1) (by omega)
      rw [← Nat.add_assoc] at hx1 hy1
      generalize F.getD (k * 2) 0 = z0 at hx0 hy0
      generalize F.getD (k * 2 + 1) 0 = z1 at hx1 hy1
      clear hc1 hc2 ha hb hn
      go_wp2_with fail
      go_quiet (fail)
      go_wp2
      go_roundw
      case rel => exact ⟨k + 1, by omega, by go_num, belowThen hbw (Go.Joins.below_draws _ _ _)⟩
      case measure => simp [intOf]; omega
    · go_wp2
      go_ret
      exact ⟨rfl, hbw⟩
theorem vBig_any (ao : Option Addr) (n cap : Nat) (w : World) : Calls Try.prog 4 #[.slice ao n cap] w fun e w' => e = .returned (.bool (decide ((65536 : Int) < (n : Int)))) ∧ w = w' := by
  go_enter Try.func4, Try.ntmps4
  go_wp2
  go_ret
  exact ⟨rfl, rfl⟩
theorem infoByte : (Try.prog.info? 5).map (fun i => (i.zero, i.size, i.bytes)) = some (some (.int .u8 0), 1, 1) := by kernel_rfl
theorem listOf (f : Nat → Nat → Prop) (m : Nat) (h : ∀ j, j < m → ∃ x : Nat, x < 256 ∧ f j x) : ∃ l : List Nat, l.length = m ∧ (∀ x ∈ l, x < 256) ∧ ∀ j, j < m → f j (l.getD j 0) := by
  induction m with
  | zero => exact ⟨[], rfl, by simp, fun j hj => by omega⟩
  | succ m ih =>
    obtain ⟨l, h1, h2, h3⟩ := ih fun j hj => h j (by omega)
    obtain ⟨x, hx, hf⟩ := h m (by omega)
    refine ⟨l ++ [x], by simp [h1], fun y hy => ?_, fun j hj => ?_⟩
    · rcases List.mem_append.1 hy with hy | hy
      · exact h2 y hy
      · simp at hy; omega
    · by_cases hlt : j < m
      · rw [List.getD_eq_getElem?_getD, List.getElem?_append_left (by omega), ← List.getD_eq_getElem?_getD]
        exact h3 j hlt
      · have hjm : j = m := by omega
        subst hjm
        rw [List.getD_eq_getElem?_getD, List.getElem?_append_right (by omega), h1, Nat.sub_self]
        exact hf
/-- A slice of bytes is appended to an empty one. -/
theorem runSpread (W : World) (ty : TypeId) (a0 : Addr) (p : Option Addr) (m c : Nat) (hm : m ≤ 65536) (hp : m = 0 ∨ ∃ ad, p = some ad ∧ ∀ j, j < m → ∃ x : Nat, x < 256 ∧ W.cell? (ad.add j) = some (.int .u8 x)) :
    ∃ v' w' vs, (Builtin.append_ #[22, 22] ty #[.slice (some a0) 0 0, .slice p m c]).run Try.prog W = .ok v' w' ∧ vs.length = m ∧ (∀ u ∈ vs, ∃ x : Nat, x < 256 ∧ u = .int .u8 x) ∧ ownsV w' W.heap.size 5 v' vs ∧ Below W.heap.size W w' := by
  obtain ⟨i0, hi, hz0, hz1, hz2⟩ := info_parts infoByte
  by_cases h0 : m = 0
  · subst h0
    refine ⟨.slice (some a0) 0 0, W, [], ?_, rfl, by simp, .inr ⟨rfl, rfl, a0, rfl⟩, Below.refl _ _⟩
    cases p <;> simp [Builtin.append_, run_underlying Try.underlying22, sizeOf, typeInfo, hi, Builtin.lenOf, Builtin.firstCells, loadCells, loadCellsFrom, storeCells]
  · rcases hp with hp | ⟨ad, rfl, hc0⟩
    · exact absurd hp h0
    obtain ⟨nl, hnl, hnx, hnc⟩ := listOf (fun j x => W.cell? (ad.add j) = some (.int .u8 x)) m hc0
    obtain ⟨news, hnews⟩ : ∃ news, news = nl.map fun (x : Nat) => (x : Int) := ⟨_, rfl⟩
    have hl : news.length = m := by rw [hnews]; simp [hnl]
    have hc : ∀ j, j < m → W.cell? (ad.add j) = some (.int .u8 (news.getD j 0)) := fun j hj => by
      rw [hnc j hj, hnews]
      simp [hnl, hj]
    obtain ⟨v', w', hr, r1, r2⟩ := run_append_arg_grows (P := Try.prog) W 22 ty 5 i0 (.int .u8 0) 1 1 Try.underlying22 hi hz0 hz1 hz2 rfl (by decide) a0 0 0 [] rfl (by intro j u2 h; simp at h) ad m c (news.map (Value.int .u8)) (by simp [hl]) (fun j u hu => by
      have hj : j < m := by have := (List.getElem?_eq_some_iff.1 hu).1; simpa [hl] using this
      rw [hc j hj]
      simp [hl, hj] at hu
      simp [hl, hj, hu]) (by omega) (by unfold maxLen; omega) (by omega)
    refine ⟨v', w', news.map (Value.int .u8), hr, by simp [hl], (fun u hu => by
      rw [hnews, List.map_map] at hu
      obtain ⟨x, hx, rfl⟩ := List.mem_map.1 hu
      exact ⟨x, hnx x hx, rfl⟩), ?_, (Below.refl _ W).grown r2 (Nat.le_refl _) (fun k hk => by cases hk)⟩
    have e : (news.map (Value.int .u8)).length = m := by simp [hl]
    unfold ownsV
    rw [e]
    exact .inl (by simpa using r1)
theorem RdY_own {w : World} {B : Nat} {v : Value} {vs : List Value} (h : ownsV w B 5 v vs) (hv : ∀ u ∈ vs, ∃ x : Nat, x < 256 ∧ u = .int .u8 x) (hl : vs.length ≤ 1000000) : ∃ ao cap, v = .slice ao vs.length cap ∧ RdY w ao vs.length := by
  obtain ⟨ao, cap, he, h2⟩ := ownsV_shape h
  refine ⟨ao, cap, he, by unfold maxLen; omega, ?_⟩
  rcases h2 with h2 | ⟨b, o, rfl, hb, hc⟩
  · left; rw [h2]; rfl
  · refine .inr ⟨b, o, rfl, hb, fun j hj => ?_⟩
    obtain ⟨x, hx, he2⟩ := hv (vs.getD j undef) (by rw [List.getD_eq_getElem?_getD, List.getElem?_eq_getElem hj]; exact List.getElem_mem _)
    exact ⟨x, hx, by rw [hc j hj, he2]⟩
theorem stepSpread {rest : List Oper} {ops : Array Oper} {o : Oper} {a : Act} {Q : Exit → Act → World → Prop} (w : World) (hgd : o.guard = none) (s x : Operand)
    (ho : o.op = .call { callee := .builtin .append, args := #[s, x], argTypes := #[22, 22] }) (a0 : Addr) (p : Option Addr) (m c : Nat) (hs : a.eval s = .slice (some a0) 0 0) (hx : a.eval x = .slice p m c) (hm : m ≤ 65536)
    (hp : m = 0 ∨ ∃ ad, p = some ad ∧ ∀ j, j < m → ∃ x : Nat, x < 256 ∧ w.cell? (ad.add j) = some (.int .u8 x))
    (h : ∀ v' w' vs, vs.length = m → (∀ u ∈ vs, ∃ x : Nat, x < 256 ∧ u = .int .u8 x) → ownsV w' w.heap.size 5 v' vs → Below w.heap.size w w' → wpList Try.prog ops Q rest (a.put o.dst v') w') : wpList Try.prog ops Q (o :: rest) a w := by
  refine wpList_plain hgd fun K hK' => ?_
  obtain ⟨v', w', vs, hrun, h1, h2, h3, h4⟩ := runSpread w o.type a0 p m c hm hp
  unfold Oper.wp
  simp [execOp, ho, resolve, invoke, builtin, hs, hx, hrun, Result.andThen]
  exact hK' _ _ (h v' w' vs h1 h2 h3 h4)
set_option maxHeartbeats 1600000 in
theorem vCut_any (ao : Option Addr) (n cap : Nat) (k : Nat) (w : World) (h : RdY w ao n) (hn : n ≤ 65536) (hk : k ≤ 100) (hnc : n ≤ cap) :
    Calls Try.prog 9 #[.slice ao n cap, .int .i64 k] w fun e w' => ∃ ao' n' cap', e = .returned (.slice ao' n' cap') ∧ RdY w' ao' n' ∧ n' ≤ 65537 ∧ Below w.heap.size w w' := by
  have hk8 : IntKind.u8.wrap (k : Int) = k := by unfold IntKind.wrap; simp [IntKind.signed, IntKind.bits]; omega
  obtain ⟨q, hq⟩ : ∃ q, min k n = q := ⟨_, rfl⟩
  have hqn : q ≤ n := by omega
  have hp : ∀ W : World, Below w.heap.size w W → (n - q = 0 ∨ ∃ ad, (Option.map (fun x => x.add q) ao) = some ad ∧ ∀ j, j < n - q → ∃ x : Nat, x < 256 ∧ W.cell? (ad.add j) = some (.int .u8 x)) := fun W hW => by
    rcases h.2 with h | ⟨c, o, rfl, hc, hx⟩
    · left; omega
    · right
      refine ⟨⟨c, o + q, none⟩, by simp [Addr.add_lit], fun j hj => ?_⟩
      obtain ⟨x, h1, h2⟩ := hx (q + j) (by omega)
      refine ⟨x, h1, ?_⟩
      rw [Addr.add_lit, Nat.add_assoc]
      exact (hW.cell (p := ⟨c, o + (q + j), none⟩) hc).trans h2
  have HP := Lib.hid hp
  clear hp h
  have hsl : ∀ (W : World) (c : Nat), (Instr.slice 22 (.slice ao n cap) (some (.int .i64 (q : Int))) none none).run Try.prog W = (Instr.slice 22 (.slice ao n cap) (some (.int .i64 (q : Int))) none none).run Try.prog W := fun _ _ => rfl
  clear hsl
  by_cases hlt : k ≤ n
  · have hqk : q = k := by omega
    subst hqk
    have hgt : ¬ ((n : Int) < (q : Int)) := by omega
    rcases ao with _ | ad <;> by_cases hcq : cap = q
    all_goals
      have hA1 := @cellAlloc; have hA2 := @frozenAlloc; have hA3 := @setCellAlloc; go_enter Try.func9, Try.ntmps9
      go_wp2_with (at_builtin; first
        | (refine stepSpread _ (by rfl) _ _ (by rfl) _ _ _ _ (by rfl) (by rfl) (by omega) (by first | exact .inl rfl | exact .inl (by omega) | exact HP.out _ (Go.Joins.below_alloc1 _ _)) ?_; intro v2 w2 vs hvl hvs hv2 hb2)
        | (refine wpAppendV w2 (by rfl) _ _ _ _ (.int .u8 0) 1 (by rfl) Try.underlying22 infoByte rfl (by decide) (w.heap.size + 1) _ vs (by rfl) (by rw [heapAlloc] at hv2; exact hv2) (.int .u8 (q : Int)) rfl _ (by rfl) (by omega) (by have := hb2.size; rw [heapAlloc] at this; exact this) ?_; intro co cc w4 hv4 hb4))
      all_goals
        have hbT : Below w.heap.size w w4 := ((Go.Joins.below_alloc1 w _).trans (hb2.mono (by rw [heapAlloc]; omega))).trans (hb4.mono (by omega))
        obtain ⟨ao9, cap9, he9, hr9⟩ := RdY_own hv4 (fun u hu => by
          rcases List.mem_append.1 hu with hu | hu
          · exact hvs u hu
          · simp at hu; exact ⟨q, by omega, hu⟩) (by simp; omega)
        simp only [Value.slice.injEq] at he9
        obtain ⟨rfl, he10, rfl⟩ := he9
        rw [← he10] at hr9
        go_ret
        rw [hvl] at hr9
        refine ⟨co, _, ⟨cc, rfl⟩, hr9, ?_, hbT⟩
        omega
  · have hqk : q = n := by omega
    subst hqk
    have hk9 : IntKind.u8.wrap (q : Int) = q := by unfold IntKind.wrap; simp [IntKind.signed, IntKind.bits]; omega
    have hgt : ((q : Int) < (k : Int)) := by omega
    rcases ao with _ | ad <;> by_cases hcq : cap = q
    all_goals
      have hA1 := @cellAlloc; have hA2 := @frozenAlloc; have hA3 := @setCellAlloc; go_enter Try.func9, Try.ntmps9
      go_wp2_with (at_builtin; first
        | (refine stepSpread _ (by rfl) _ _ (by rfl) _ _ _ _ (by rfl) (by rfl) (by omega) (by first | exact .inl rfl | exact .inl (by omega) | exact HP.out _ (Go.Joins.below_alloc1 _ _)) ?_; intro v2 w2 vs hvl hvs hv2 hb2)
        | (refine wpAppendV w2 (by rfl) _ _ _ _ (.int .u8 0) 1 (by rfl) Try.underlying22 infoByte rfl (by decide) (w.heap.size + 1) _ vs (by rfl) (by rw [heapAlloc] at hv2; exact hv2) (.int .u8 (q : Int)) rfl _ (by rfl) (by omega) (by have := hb2.size; rw [heapAlloc] at this; exact this) ?_; intro co cc w4 hv4 hb4))
      all_goals
        have hbT : Below w.heap.size w w4 := ((Go.Joins.below_alloc1 w _).trans (hb2.mono (by rw [heapAlloc]; omega))).trans (hb4.mono (by omega))
        obtain ⟨ao9, cap9, he9, hr9⟩ := RdY_own hv4 (fun u hu => by
          rcases List.mem_append.1 hu with hu | hu
          · exact hvs u hu
          · simp at hu; exact ⟨q, by omega, hu⟩) (by simp; omega)
        simp only [Value.slice.injEq] at he9
        obtain ⟨rfl, he10, rfl⟩ := he9
        rw [← he10] at hr9
        go_ret
        rw [hvl] at hr9
        refine ⟨co, _, cc, rfl, hr9, ?_, hbT⟩
        omega
end Go.Proofs.Ytpcmlfohblglaaa
