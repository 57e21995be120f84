/- append of one element to a slice of the call's own, and what becomes of other blocks. -/
import Derived.Test.YtjcbffkdemadnaaOwn
import Derived.Lib.Hide
namespace Go.Proofs.Ytjcbffkdemadnaa
open Go.RowKit

/-- The block of a slice that has room. -/
def effB : Value → Option Nat
  | .slice (some a) _ (_ + 1) => some a.block
  | _ => none
theorem eff_own {w : World} {B : Nat} {e : TypeId} {size : Nat} {v : Value} {n : Nat} {xs : List Value} (h : ownsG w B e size v n xs) : ∀ k, effB v = some k → B ≤ k ∧ k < w.heap.size := by
  intro k hk
  rcases h with h | ⟨_, _, a, rfl⟩
  · refine World.ownsRow.lt h k ?_
    rcases h.2 with ⟨rfl, _⟩ | ⟨g, cap, cur, rfl, _⟩
    · exact hk
    · cases cap with
      | zero => simp [effB] at hk
      | succ c => simpa [effB, Value.ownBlock] using hk
  · simp [effB] at hk
theorem wpAppendG2 {ops : Array Oper} {rest : List Oper} {o : Oper} {a : Act} {Q : Exit → Act → World → Prop} (w : World) (hgd : o.guard = none) (s x : Operand) (ts e : TypeId) (z : Value) (size bytes : Nat)
    (ho : o.op = .call { callee := .builtin .append, args := #[s, x], argTypes := #[ts, ts] }) (hts : Try.prog.underlying ts = some (.slice e))
    (hin : (Try.prog.info? e).map (fun i => (i.zero, i.size, i.bytes)) = some (some z, size, bytes)) (hzs : z.cells.size = size) (hsz : 0 < size) (hby : bytes ≤ 100)
    (B : Nat) (v : Value) (n : Nat) (xs : List Value) (hs : a.eval s = v) (hown : ownsG w B e size v n xs) (news : List Value) (t' : TypeId) (hx : a.eval x = .slice (some ⟨w.heap.size, 0, none⟩) 1 1) (hl : news.length = size) (h1 : ∀ u ∈ news, u.oneCell' = true)
    (hn : n ≤ 1000000000) (hB : B ≤ w.heap.size)
    (h : ∀ ao cap w', ownsG w' B e size (.slice ao (n + 1) cap) (n + 1) (xs ++ news) → Below B w w' → (∀ k, k < w.heap.size → effB v ≠ some k → w'.heap[k]? = w.heap[k]?) →
      (∀ k, effB (Value.slice ao (n + 1) cap) = some k → k < w'.heap.size ∧ (effB v = some k ∨ w.heap.size ≤ k)) → wpList Try.prog ops Q rest (a.put o.dst (.slice ao (n + 1) cap)) w') :
    wpList Try.prog ops Q (o :: rest) a (w.alloc (.cells news.toArray t')) := by
  obtain ⟨i0, hi, hz0, hz1, hz2⟩ := info_parts hin
  have hb1 : (n + 1) * bytes ≤ 140737488355328 := by
    have : (n + 1) * bytes ≤ (n + 1) * 100 := Nat.mul_le_mul_left _ hby
    omega
  have hnews : ∀ j u, news[j]? = some u → (w.alloc (.cells news.toArray t')).cell? ((⟨w.heap.size, 0, none⟩ : Addr).add j) = some u := by
    intro j u hu
    rw [Addr.add_lit, World.cell?_alloc_at _ _ _ _ rfl]
    simpa using hu
  have fin : ∀ v' w', w'.ownsRow B e size v' (n + 1) (xs ++ news) → Below B w w' → (∀ k, k < w.heap.size → effB v ≠ some k → w'.heap[k]? = w.heap[k]?) → (∀ k, v'.ownBlock = some k → effB v = some k ∨ w.heap.size ≤ k) → wpList Try.prog ops Q rest (a.put o.dst v') w' := by
    intro v' w' hr hb hk hat
    rcases hr.2 with ⟨h0, _⟩ | ⟨g, cap, cur, rfl, _, hg, _⟩
    · omega
    · exact h _ _ _ (.inl hr) hb hk fun k hk2 => ⟨(eff_own (.inl hr) k hk2).2, by
        cases cap with
        | zero => simp [effB] at hk2
        | succ c => exact hat k (by simpa [effB, Value.ownBlock] using hk2)⟩
  by_cases hzero : ∃ a0, v = .slice (some a0) 0 0
  · obtain ⟨a0, rfl⟩ := hzero
    have hn0 : n = 0 := by
      rcases hown with h2 | ⟨h2, _⟩
      · rcases h2.2 with ⟨h3, _⟩ | ⟨g, cap, cur, h3, _⟩
        · cases h3
        · simp only [Value.slice.injEq] at h3; omega
      · exact h2
    subst hn0
    have hx0 : xs = [] := List.eq_nil_of_length_eq_zero (by have := ownsG_len hown; omega)
    subst hx0
    refine wpList_append_grows _ hgd s x ts ho e i0 z size bytes hts hi hz0 hz1 hz2 hzs hsz (some a0) 0 0 [] hs (by simp) (by simp) (by simp) ⟨w.heap.size, 0, none⟩ 1 1 _ hx (by simpa using hl) hnews h1 (by omega) (by unfold maxLen; omega) hb1 ?_
    intro v' w' hr hg
    have hr2 : w'.ownsRow B e size v' (0 + 1) ([] ++ news) := by
      refine ⟨hr.1, ?_⟩
      rcases hr.2 with h2 | ⟨g, cap, cur, hv, hBg, r⟩
      · exact .inl h2
      · exact .inr ⟨g, cap, cur, hv, by simp at hBg; omega, r⟩
    refine fin v' w' hr2 (((Below.refl B w).alloc hB _).grown hg (by simp; omega) fun k hk => by cases hk) (fun k hk hne => ?_) (fun k hk => ?_)
    · rw [hg.block k (by simp; omega) (by simp), Below.heap_alloc _ _ _ hk]
    · right
      rcases hr.2 with ⟨h0, _⟩ | ⟨g, cap, cur, rfl, hBg, _⟩
      · omega
      · simp only [Value.ownBlock, Option.some.injEq] at hk
        rw [heapAlloc] at hBg
        omega
  · rcases hown with hown | ⟨_, _, a0, rfl⟩
    · have heff : effB v = v.ownBlock := by
        rcases hown.2 with ⟨rfl, _⟩ | ⟨g, cap, cur, rfl, _, _, hnc, _⟩
        · rfl
        · cases cap with
          | zero => exact absurd ⟨_, by rw [show n = 0 by omega]⟩ hzero
          | succ c => rfl
      refine wpList_append_own_at _ hgd s x ts ho B e i0 z size bytes hts hi hz0 hz1 hz2 hzs hsz v n _ hs (World.ownsRow.alloc hown _) ⟨w.heap.size, 0, none⟩ 1 1 _ hx (by simpa using hl) hnews h1 (by unfold maxLen; omega) hb1 (by simp; omega) ?_
      intro v' w' hr hg _ hat
      refine fin v' w' hr (((Below.refl B w).alloc hB _).grown hg (by simp; omega) fun k hk => (World.ownsRow.lt hown k hk).1) (fun k hk hne => ?_) (fun k hk => ?_)
      · rw [heff] at hne
        rw [hg.block k (by simp; omega) (Ne.symm hne), Below.heap_alloc _ _ _ hk]
      · rw [heff]
        rcases hat with hat | hat
        · exact .inl (hat.symm.trans hk)
        · right
          rw [hat] at hk
          simp only [Option.some.injEq, heapAlloc] at hk
          omega
    · exact absurd ⟨a0, rfl⟩ hzero
/-- append of one number, and what becomes of other blocks. -/
theorem wpAppendInt2 {ops : Array Oper} {rest : List Oper} {o : Oper} {a : Act} {Q : Exit → Act → World → Prop} (w : World) (hgd : o.guard = none) (s x : Operand)
    (ho : o.op = .call { callee := .builtin .append, args := #[s, x], argTypes := #[37, 37] })
    (B : Nat) (v : Value) (L : List Int) (hs : a.eval s = v) (hown : ownsInts w B v L) (z : Int) (hx : a.eval x = .slice (some ⟨w.heap.size, 0, none⟩) 1 1)
    (hn : L.length ≤ 1000000000) (hB : B ≤ w.heap.size)
    (h : ∀ ao cap w', ownsInts w' B (.slice ao (L.length + 1) cap) (L ++ [z]) → Below B w w' → (∀ k, k < w.heap.size → effB v ≠ some k → w'.heap[k]? = w.heap[k]?) →
      (∀ k, effB (Value.slice ao (L.length + 1) cap) = some k → k < w'.heap.size ∧ (effB v = some k ∨ w.heap.size ≤ k)) → wpList Try.prog ops Q rest (a.put o.dst (.slice ao (L.length + 1) cap)) w') :
    wpList Try.prog ops Q (o :: rest) a (w.alloc (.cells #[.int .i64 z] 3)) :=
  wpAppendG2 w hgd s x _ _ (.int .i64 0) 1 8 ho Try.underlying37 infoInt rfl (by decide) (by decide) B v L.length _ hs hown [.int .i64 z] _ hx rfl (by simp [Value.oneCell']) hn hB
    fun ao cap w' h2 hb hk hn2 => h ao cap w' (by unfold ownsInts; simpa using h2) hb hk hn2
/-- Two slices of the call's own that lie apart. -/
def ownI2 (w : World) (B : Nat) (va : Value) (La : List Int) (vw : Value) (Lw : List Int) : Prop :=
  ownsInts w B va La ∧ ownsInts w B vw Lw ∧ (∀ k, effB va = some k → k < w.heap.size ∧ effB vw ≠ some k) ∧ ∀ k, effB vw = some k → k < w.heap.size
theorem ownsG_keep {w w' : World} {B : Nat} {e : TypeId} {size : Nat} {v : Value} {n : Nat} {xs : List Value} (h : ownsG w B e size v n xs) (hk : ∀ k, k < w.heap.size → effB v = some k → w'.heap[k]? = w.heap[k]?) : ownsG w' B e size v n xs := by
  rcases h with h | h
  · rcases h.2 with h2 | ⟨g, cap, cur, rfl, hBg, hg, hnc, r⟩
    · exact .inl ⟨h.1, .inl h2⟩
    · cases cap with
      | zero =>
        have hn : n = 0 := by omega
        subst hn
        exact .inr ⟨rfl, List.eq_nil_of_length_eq_zero (by have := h.1; omega), _, rfl⟩
      | succ c => exact .inl ⟨h.1, .inr ⟨g, c + 1, cur, rfl, hBg, by rw [hk g (Array.getElem?_eq_some_iff.1 hg).1 rfl]; exact hg, hnc, r⟩⟩
  · exact .inr h
theorem ownI2_below {w w' : World} {B : Nat} {va vw : Value} {La Lw : List Int} (h : ownI2 w B va La vw Lw) (hb : Below w.heap.size w w') : ownI2 w' B va La vw Lw :=
  ⟨ownsInts_below h.1 hb (Nat.le_refl _), ownsInts_below h.2.1 hb (Nat.le_refl _), fun k hk => ⟨by have := hb.size; have := (h.2.2.1 k hk).1; omega, (h.2.2.1 k hk).2⟩, fun k hk => by have := hb.size; have := h.2.2.2 k hk; omega⟩
theorem ownI2_a {W W' : World} {B : Nat} {va vw va' : Value} {La Lw La' : List Int} (h : ownI2 W B va La vw Lw) (h1 : ownsInts W' B va' La') (hsz : W.heap.size ≤ W'.heap.size)
    (hk : ∀ k, k < W.heap.size → effB va ≠ some k → W'.heap[k]? = W.heap[k]?) (hn : ∀ k, effB va' = some k → k < W'.heap.size ∧ (effB va = some k ∨ W.heap.size ≤ k)) : ownI2 W' B va' La' vw Lw := by
  obtain ⟨h2, h3, h4, h5⟩ := h
  refine ⟨h1, ownsG_keep h3 fun k hlt hb => hk k hlt fun hc => (h4 k hc).2 hb, fun k hb => ⟨(hn k hb).1, ?_⟩, fun k hb => by have := h5 k hb; omega⟩
  rcases (hn k hb).2 with hc | hc
  · exact (h4 k hc).2
  · intro hd
    have := h5 k hd
    omega
theorem ownI2_w {W W' : World} {B : Nat} {va vw vw' : Value} {La Lw Lw' : List Int} (h : ownI2 W B va La vw Lw) (h1 : ownsInts W' B vw' Lw') (hsz : W.heap.size ≤ W'.heap.size)
    (hk : ∀ k, k < W.heap.size → effB vw ≠ some k → W'.heap[k]? = W.heap[k]?) (hn : ∀ k, effB vw' = some k → k < W'.heap.size ∧ (effB vw = some k ∨ W.heap.size ≤ k)) : ownI2 W' B va La vw' Lw' := by
  obtain ⟨h2, h3, h4, h5⟩ := h
  refine ⟨ownsG_keep h2 fun k hlt hb => hk k hlt (h4 k hb).2, h1, fun k hb => ⟨by have := (h4 k hb).1; omega, fun hc => ?_⟩, fun k hb => (hn k hb).1⟩
  have h6 := h4 k hb
  rcases (hn k hc).2 with hd | hd
  · exact h6.2 hd
  · omega
/-- Two slices of which the second one was made later lie apart. -/
theorem ownI2_mk {w1 w2 : World} {B : Nat} {va vw : Value} {La Lw : List Int} (h1 : ownsInts w1 B va La) (hb : Below w1.heap.size w1 w2) (h2 : ownsInts w2 w1.heap.size vw Lw) (hB : B ≤ w1.heap.size) : ownI2 w2 B va La vw Lw :=
  ⟨ownsInts_below h1 hb (Nat.le_refl _), ownsInts_le h2 hB, fun k hk => ⟨by have := (eff_own h1 k hk).2; have := hb.size; omega, fun hc => by have := (eff_own h2 k hc).1; have := (eff_own h1 k hk).2; omega⟩, fun k hk => (eff_own h2 k hk).2⟩
end Go.Proofs.Ytjcbffkdemadnaa
