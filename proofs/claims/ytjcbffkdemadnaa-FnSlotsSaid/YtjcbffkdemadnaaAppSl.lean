/- append of Slots to a slice of Slots of the call's own; Clone, Delete. -/
import Derived.Test.YtjcbffkdemadnaaSlot
import Derived.Lib.Hide
import Derived.Lib.SliceRun
import Derived.Maps.AppendAt
import Derived.Deep.RegionLaw
import Derived.Deep.DeepMust
import Derived.WalkKit
namespace Go.Proofs.Ytjcbffkdemadnaa
open Go.RowKit

/-- The cells of a slice that reads as l. -/
theorem RdS_cells {w : World} {ad : Addr} {l : List (Int × Int)} (h : RdS w (some ad) l) : ∀ j u, (cellsS l)[j]? = some u → w.cell? (ad.add j) = some u := by
  intro j u hu
  have hj : j < l.length * 2 := by rw [← cellsS_length]; exact (List.getElem?_eq_some_iff.1 hu).1
  rcases h with h | ⟨b, off, he, _, hc⟩
  · rw [h] at hj; simp at hj
  · simp only [Option.some.injEq] at he
    subst he
    rw [Addr.add_lit]
    obtain ⟨h0, h1⟩ := hc (j / 2) (by omega)
    obtain ⟨c0, c1⟩ := cellsS_at l (j / 2) (by omega)
    rcases Nat.mod_two_eq_zero_or_one j with hm | hm
    · rw [show j / 2 * 2 = j by omega] at h0 c0
      rw [h0, ← c0, hu]
    · rw [show off + j / 2 * 2 + 1 = off + j by omega] at h1
      rw [show j / 2 * 2 + 1 = j by omega] at c1
      rw [h1, ← c1, hu]
theorem runAppendSl (w : World) (ty : TypeId) (B : Nat) (v : Value) (l : List (Int × Int)) (hown : ownsS w B v l) (ad : Addr) (m c : Nat) (l2 : List (Int × Int)) (hl2 : l2.length = m) (hrd : RdS w (some ad) l2)
    (hv : (∃ b off n c, v = .slice (some ⟨b, off, none⟩) n c) ∨ 0 < m) (hvb : ∀ k, v.ownBlock = some k → k < w.heap.size) (hn : l.length + m ≤ 1000000) (hB : B ≤ w.heap.size) :
    ∃ b off cap w', (Builtin.append_ #[24, 24] ty #[v, .slice (some ad) m c]).run Try.prog w = .ok (.slice (some ⟨b, off, none⟩) (l.length + m) cap) w' ∧ ownsS w' B (.slice (some ⟨b, off, none⟩) (l.length + m) cap) (l ++ l2) ∧ Below B w w' ∧
      (∀ k, k < w.heap.size → v.ownBlock ≠ some k → w'.heap[k]? = w.heap[k]?) ∧ b < w'.heap.size ∧ (v.ownBlock = some b ∨ w.heap.size ≤ b) := by
  obtain ⟨i0, hi, hz0, hz1, hz2⟩ := info_parts infoSlot
  have hcl : (cellsS l2).length = m * 2 := by rw [cellsS_length, hl2]
  rcases hown with hown | ⟨h0, h1, a0, rfl⟩
  · obtain ⟨v', w', hr, h2, h3, h4, h5⟩ := run_append_own_at (P := Try.prog) w B 24 ty 48 i0 (.agg #[.int .i64 0, .int .i64 0]) 2 16 Try.underlying24 hi hz0 hz1 hz2 rfl (by decide) v l.length (cellsS l) hown ad m c (cellsS l2) hcl (RdS_cells hrd) (cellsS_one l2) (by unfold maxLen; omega) (by omega) hB
    have hb : Below B w w' := (Below.refl B w).grown h3 hB (fun k hk => (World.ownsRow.lt hown k hk).1)
    have hk : ∀ k, k < w.heap.size → v.ownBlock ≠ some k → w'.heap[k]? = w.heap[k]? := fun k hk hne => h3.block k hk (fun e => hne e.symm)
    rw [← cellsS_append] at h2
    have hform : ∃ b off cap, v' = .slice (some ⟨b, off, none⟩) (l.length + m) cap := by
      rcases h2.2 with ⟨rfl, h00⟩ | ⟨g, cap, cur, rfl, _⟩
      · exfalso
        rcases hv with ⟨b, off, n, c2, rfl⟩ | hm
        · rcases h5 with h5 | h5 <;> simp [Value.ownBlock] at h5
        · omega
      · exact ⟨g, 0, cap, rfl⟩
    obtain ⟨b, off, cap, rfl⟩ := hform
    refine ⟨b, off, cap, w', hr, .inl (by simpa [hl2] using h2), hb, hk, (World.ownsRow.lt h2 b rfl).2, ?_⟩
    rcases h5 with h5 | h5
    · exact .inl (by rw [← h5]; rfl)
    · right
      have : b = w.heap.size := by simpa [Value.ownBlock] using h5
      omega
  · have hl0 : l = [] := List.eq_nil_of_length_eq_zero h0
    subst hl0
    by_cases hm : m = 0
    · subst hm
      have hl20 : l2 = [] := List.eq_nil_of_length_eq_zero hl2
      subst hl20
      obtain ⟨b, off, n, c2, he⟩ : ∃ b off n c2, Value.slice (some a0) 0 0 = .slice (some ⟨b, off, none⟩) n c2 := by
        rcases hv with h | h
        · exact h
        · omega
      simp only [Value.slice.injEq, Option.some.injEq] at he
      obtain ⟨rfl, -, -⟩ := he
      refine ⟨b, off, 0, w, ?_, ownsS_zero _ _ _, Below.refl _ _, fun _ _ _ => rfl, hvb b rfl, .inl rfl⟩
      have := run_append_room_cells (P := Try.prog) w 24 ty 48 i0 Try.underlying24 hi b off 0 0 ad 0 c [] (by simp) (by intro j u h; simp at h) (by intro u h; simp at h) (by omega) (by intro j h; simp at h) (by intro j h; simp at h)
      simpa [World.setCells] using this
    · obtain ⟨v', w', hr, r1, r2⟩ := run_append_arg_grows (P := Try.prog) w 24 ty 48 i0 (.agg #[.int .i64 0, .int .i64 0]) 2 16 Try.underlying24 hi hz0 hz1 hz2 rfl (by decide) a0 0 0 [] rfl (by intro j u h; simp at h) ad m c (cellsS l2) hcl (RdS_cells hrd) (by omega) (by unfold maxLen; omega) (by simp at hn; omega)
      rcases r1.2 with ⟨_, h9⟩ | ⟨g, cap, cur, rfl, hBg, h9⟩
      · omega
      · refine ⟨g, 0, cap, w', by simpa using hr, .inl ?_, (Below.refl B w).grown r2 hB (fun k hk => by cases hk), fun k hk _ => r2.block k hk (by simp), (World.ownsRow.lt r1 g rfl).2, .inr (by omega)⟩
        refine ⟨?_, .inr ⟨g, cap, cur, ?_, by omega, ?_⟩⟩
        · simpa [hl2] using r1.1
        · simp [hl2]
        · simpa [hl2] using h9
theorem wpAppendSl {ops : Array Oper} {rest : List Oper} {o : Oper} {a : Act} {Q : Exit → Act → World → Prop} (w : World) (hgd : o.guard = none) (s x : Operand)
    (ho : o.op = .call { callee := .builtin .append, args := #[s, x], argTypes := #[24, 24] })
    (B : Nat) (v : Value) (l : List (Int × Int)) (hs : a.eval s = v) (hown : ownsS w B v l) (ad : Addr) (m c : Nat) (l2 : List (Int × Int)) (hx : a.eval x = .slice (some ad) m c) (hl2 : l2.length = m) (hrd : RdS w (some ad) l2)
    (hv : (∃ b off n c, v = .slice (some ⟨b, off, none⟩) n c) ∨ 0 < m) (hvb : ∀ k, v.ownBlock = some k → k < w.heap.size) (hn : l.length + m ≤ 1000000) (hB : B ≤ w.heap.size)
    (h : ∀ b off cap w', ownsS w' B (.slice (some ⟨b, off, none⟩) (l.length + m) cap) (l ++ l2) → Below B w w' → (∀ k, k < w.heap.size → v.ownBlock ≠ some k → w'.heap[k]? = w.heap[k]?) → b < w'.heap.size → (v.ownBlock = some b ∨ w.heap.size ≤ b) → wpList Try.prog ops Q rest (a.put o.dst (.slice (some ⟨b, off, none⟩) (l.length + m) cap)) w') :
    wpList Try.prog ops Q (o :: rest) a w := by
  refine wpList_plain hgd fun _ hK => ?_
  obtain ⟨b, off, cap, w', hr, h2, h3, h4, h5, h6⟩ := runAppendSl w o.type B v l hown ad m c l2 hl2 hrd hv hvb hn hB
  unfold Oper.wp execOp
  simp only [ho, resolve, invoke, builtin, Sem.run_bind, Sem.run_pure, Result.andThen_ok, List.map_toArray, List.map_cons, List.map_nil, hs, hx, hr]
  exact hK _ _ (h b off cap w' h2 h3 h4 h5 h6)
theorem stepAppendSl {ops : Array Oper} {o : Oper} {a : Act} {w : World} {K' : Act → World → Prop} {Q : Exit → Act → World → Prop} {E : Prop} (hgd : o.guard = none) (s x : Operand)
    (ho : o.op = .call { callee := .builtin .append, args := #[s, x], argTypes := #[24, 24] })
    (B : Nat) (v : Value) (l : List (Int × Int)) (hs : a.eval s = v) (hown : ownsS w B v l) (ad : Addr) (m c : Nat) (l2 : List (Int × Int)) (hx : a.eval x = .slice (some ad) m c) (hl2 : l2.length = m) (hrd : RdS w (some ad) l2)
    (hv : (∃ b off n c, v = .slice (some ⟨b, off, none⟩) n c) ∨ 0 < m) (hvb : ∀ k, v.ownBlock = some k → k < w.heap.size) (hn : l.length + m ≤ 1000000) (hB : B ≤ w.heap.size)
    (h : ∀ b off cap w', ownsS w' B (.slice (some ⟨b, off, none⟩) (l.length + m) cap) (l ++ l2) → Below B w w' → (∀ k, k < w.heap.size → v.ownBlock ≠ some k → w'.heap[k]? = w.heap[k]?) → b < w'.heap.size → (v.ownBlock = some b ∨ w.heap.size ≤ b) → K' (a.put o.dst (.slice (some ⟨b, off, none⟩) (l.length + m) cap)) w') :
    if Region.wanted o (yielded ops a.tmps) = true then Oper.wp Try.prog o a w K' Q else E := by
  have hw : Region.wanted o (yielded ops a.tmps) = true := by simp [Region.wanted, hgd]
  rw [if_pos hw]
  obtain ⟨b, off, cap, w', hr, h2, h3, h4, h5, h6⟩ := runAppendSl w o.type B v l hown ad m c l2 hl2 hrd hv hvb hn hB
  unfold Oper.wp execOp
  simp only [ho, resolve, invoke, builtin, Sem.run_bind, Sem.run_pure, Result.andThen_ok, List.map_toArray, List.map_cons, List.map_nil, hs, hx, hr]
  exact h b off cap w' h2 h3 h4 h5 h6
theorem CloneS_some (ad : Addr) (n cap : Nat) (l : List (Int × Int)) (w : World) (hr : RdS w (some ad) l) (hn : l.length = n) (hm : n ≤ 1000000) :
    Calls Try.prog 32 #[.slice (some ad) n cap] w fun e w' => ∃ b off c, e = .returned (.slice (some ⟨b, off, none⟩) n c) ∧ ownsS w' w.heap.size (.slice (some ⟨b, off, none⟩) n c) l ∧ Below w.heap.size w w' ∧ b < w'.heap.size := by
  have HN := Lib.hid hn
  have HR := Lib.hid (RdS_below hr (Go.Joins.below_alloc1 w (.cells #[] 48)))
  clear hr hn
  have hnil : ∀ W : World, (binOp .eql 24 (.slice (some ad) n cap) (.slice none 0 0)).run Try.prog W = .ok (.bool false) W := fun W => Lib.run_eql_slice_nil W 24 48 (some ad) n cap 0 0 Try.underlying24
  have hA1 := @cellAlloc; have hA2 := @frozenAlloc; have hA3 := @setCellAlloc; go_enter Try.func32, Try.ntmps32
  go_wp2_with (first | (at_builtin; go_must (refine wpAppendSl (w.alloc (.cells #[] 48)) (by rfl) _ _ (by rfl) w.heap.size (.slice (some ⟨w.heap.size, 0, none⟩) 0 0) [] (by rfl) (ownsS_zero _ _ _) ad n cap l (by rfl) HN.out HR.out (.inl ⟨_, _, _, _, rfl⟩) (by intro k hk; simp [Value.ownBlock] at hk; subst hk; simp) (by simpa using hm) (by simp) ?_; intro b off c w2 hown hb hk hbl _)))
  have hown2 : ownsS w2 w.heap.size (.slice (some ⟨b, off, none⟩) n c) l := by simpa using hown
  go_ret
  exact ⟨b, off, c, by simp, hown2, (Below.refl w.heap.size w).trans (((Below.refl _ w).alloc (Nat.le_refl _) _).trans hb), hbl⟩
theorem CloneS_none (cap : Nat) (w : World) : Calls Try.prog 32 #[.slice none 0 cap] w fun e w' => e = .returned (.slice none 0 0) ∧ w = w' := by
  have hnil : ∀ W : World, (binOp .eql 24 (.slice none 0 cap) (.slice none 0 0)).run Try.prog W = .ok (.bool true) W := fun W => Lib.run_eql_slice_nil W 24 48 none 0 cap 0 0 Try.underlying24
  go_enter Try.func32, Try.ntmps32
  go_wp2
  go_ret
  exact ⟨rfl, rfl⟩
theorem CloneS_any (ao : Option Addr) (n cap : Nat) (l : List (Int × Int)) (w : World) (hr : RdS w ao l) (hn : l.length = n) (hm : n ≤ 1000000) :
    Calls Try.prog 32 #[.slice ao n cap] w fun e w' => ∃ v, e = .returned v ∧ ownsS w' w.heap.size v l ∧ Below w.heap.size w w' ∧ ∀ k, v.ownBlock = some k → k < w'.heap.size := by
  rcases ao with _ | ad
  · have hl : l = [] := by
      rcases hr with h | ⟨b, off, h, _⟩
      · exact h
      · cases h
    subst hl
    have hn0 : n = 0 := by simpa using hn.symm
    subst hn0
    refine (CloneS_none cap w).mono ?_
    rintro e w' ⟨rfl, rfl⟩
    exact ⟨_, rfl, ownsS_nil _ _, Below.refl _ _, by intro k hk; simp [Value.ownBlock] at hk⟩
  · refine (CloneS_some ad n cap l w hr hn hm).mono ?_
    rintro e w' ⟨b, off, c, rfl, h1, h2, h3⟩
    exact ⟨_, rfl, h1, h2, by intro k hk; simp [Value.ownBlock] at hk; subst hk; exact h3⟩
theorem CloneS_pos (ao : Option Addr) (n cap : Nat) (l : List (Int × Int)) (w : World) (hr : RdS w ao l) (hn : l.length = n) (hp : 0 < n) (hm : n ≤ 1000000) :
    Calls Try.prog 32 #[.slice ao n cap] w fun e w' => ∃ g c, e = .returned (.slice (some ⟨g, 0, none⟩) n c) ∧ ownsS w' w.heap.size (.slice (some ⟨g, 0, none⟩) n c) l ∧ Below w.heap.size w w' ∧ w.heap.size ≤ g ∧ g < w'.heap.size ∧ c ≤ 9223372036854775807 := by
  rcases ao with _ | ad
  · exfalso
    rcases hr with h | ⟨b, off, h, _⟩
    · rw [h] at hn; simp at hn; omega
    · cases h
  · refine (CloneS_some ad n cap l w hr hn hm).mono ?_
    rintro e w' ⟨b, off, c, rfl, h1, h2, h3⟩
    have hrow : w'.ownsRow w.heap.size 48 2 (.slice (some ⟨b, off, none⟩) n c) n (cellsS l) := by
      rcases h1 with h | ⟨h0, _⟩
      · rw [hn] at h; exact h
      · omega
    rcases hrow.2 with ⟨h0, _⟩ | ⟨g', cap', cur, hv, hB, hg, hnc, hcm, _⟩
    · cases h0
    · cases hv
      exact ⟨_, _, rfl, h1, h2, hB, h3, by unfold maxLen at hcm; exact hcm⟩
/-- What is owned in a block that an append to v does not touch stays. -/
theorem ownsS_keep {w w' : World} {B g n c : Nat} {l : List (Int × Int)} {v : Value} (h : ownsS w B (.slice (some ⟨g, 0, none⟩) n c) l) (hk : ∀ k, k < w.heap.size → v.ownBlock ≠ some k → w'.heap[k]? = w.heap[k]?) (hne : v.ownBlock ≠ some g) : ownsS w' B (.slice (some ⟨g, 0, none⟩) n c) l := by
  rcases h with h | h
  · refine .inl ⟨h.1, ?_⟩
    rcases h.2 with h2 | ⟨g', cap, cur, hv1, hBg, hg, r⟩
    · exact .inl h2
    · cases hv1
      exact .inr ⟨g, _, cur, rfl, hBg, by rw [hk g (Array.getElem?_eq_some_iff.1 hg).1 hne]; exact hg, r⟩
  · exact .inr h
/-- .. and in a block that is not the one that alone is written. -/
theorem ownsS_only {w w' : World} {B b off n c g m : Nat} {l : List (Int × Int)} (h : ownsS w B (.slice (some ⟨b, off, none⟩) n c) l) (ho : OnlyB m g w w') (hne : b ≠ g) : ownsS w' B (.slice (some ⟨b, off, none⟩) n c) l := by
  rcases h with h | h
  · refine .inl ⟨h.1, ?_⟩
    rcases h.2 with h2 | ⟨g', cap, cur, hv1, hBg, hg, r⟩
    · exact .inl h2
    · cases hv1
      exact .inr ⟨b, _, cur, rfl, hBg, by rw [ho.2 b (.inr hne)]; exact hg, r⟩
  · exact .inr h
/-- A list of one Slot that is made on the spot. -/
theorem RdS_new (W : World) (x y : Int) (T : TypeId) : RdS (W.alloc (.cells #[.int .i64 x, .int .i64 y] T)) (some ⟨W.heap.size, 0, none⟩) [(x, y)] := by
  refine .inr ⟨W.heap.size, 0, rfl, by simp, fun j hj => ?_⟩
  have h0 : j = 0 := by simpa using hj
  subst h0
  rw [World.cell?_alloc_at _ _ _ _ rfl, World.cell?_alloc_at _ _ _ _ rfl]
  exact ⟨rfl, rfl⟩
end Go.Proofs.Ytjcbffkdemadnaa
