/- Slices of slices of Slots that a call makes: their rows are owned, their elements are read. -/
import Derived.Test.YtjcbffkdemadnaaApp2
import Derived.Test.YtjcbffkdemadnaaAppSl
import Derived.ArgAppend
import Derived.Maps.AppendAt
import Derived.Lib.Hide
namespace Go.Proofs.Ytjcbffkdemadnaa
open Go.RowKit

theorem infoSlots : (Try.prog.info? 24).map (fun i => (i.zero, i.size, i.bytes)) = some (some (.slice none 0 0), 1, 24) := by kernel_rfl
/-- A block that holds no row of slices. -/
def NoRow (w : World) (k : Nat) : Prop := ∀ cur z, w.heap[k]? ≠ some (.cells cur 24 z)
/-- A slice at ao reads as the Slots l, in a block that holds no row of slices. -/
def RdT (w : World) (ao : Option Addr) (l : List (Int × Int)) : Prop :=
  l = [] ∨ ∃ b off, ao = some ⟨b, off, none⟩ ∧ b < w.heap.size ∧ NoRow w b ∧ ∀ j, j < l.length → w.cell? ⟨b, off + j * 2, none⟩ = some (.int .i64 (l.getD j (0, 0)).1) ∧ w.cell? ⟨b, off + j * 2 + 1, none⟩ = some (.int .i64 (l.getD j (0, 0)).2)
theorem RdT_rd {w : World} {ao : Option Addr} {l : List (Int × Int)} (h : RdT w ao l) : RdS w ao l := by
  rcases h with h | ⟨b, off, rfl, hlt, _, hc⟩
  · exact .inl h
  · exact .inr ⟨b, off, rfl, hlt, hc⟩
theorem RdT_keep {w w' : World} {ao : Option Addr} {l : List (Int × Int)} (h : RdT w ao l) (hs : w.heap.size ≤ w'.heap.size) (hk : ∀ k, k < w.heap.size → NoRow w k → w'.heap[k]? = w.heap[k]?) : RdT w' ao l := by
  rcases h with h | ⟨b, off, rfl, hlt, hno, hc⟩
  · exact .inl h
  · have hb := hk b hlt hno
    refine .inr ⟨b, off, rfl, Nat.lt_of_lt_of_le hlt hs, fun cur z => by rw [hb]; exact hno cur z, fun j hj => ⟨?_, ?_⟩⟩
    · exact (World.cell?_of_block hb).trans (hc j hj).1
    · exact (World.cell?_of_block hb).trans (hc j hj).2
theorem RdT_below {w w' : World} {ao : Option Addr} {l : List (Int × Int)} (h : RdT w ao l) (hb : Below w.heap.size w w') : RdT w' ao l := RdT_keep h hb.size fun k hk _ => hb.block k hk
theorem RdT_owns {w : World} {B : Nat} {ao : Option Addr} {n cap : Nat} {l : List (Int × Int)} (h : ownsS w B (.slice ao n cap) l) : RdT w ao l := by
  rcases Nat.eq_zero_or_pos l.length with h0 | h0
  · exact .inl (List.eq_nil_of_length_eq_zero h0)
  rcases h with h | ⟨h1, _⟩
  · have h2 := h
    rcases h.2 with ⟨_, h3⟩ | ⟨g, cap', cur, hv, _, hg, _⟩
    · omega
    · cases hv
      have hlt := (Array.getElem?_eq_some_iff.1 hg).1
      refine .inr ⟨g, 0, rfl, hlt, ?_, fun j hj => ?_⟩
      · intro cur' z hcell
        rw [hg] at hcell
        simp only [Option.some.injEq, Obj.cells.injEq] at hcell
        exact absurd hcell.2.1 (by decide)
      · have h5 := World.ownsRow.cellAt h2 (j * 2) (by omega)
        have h6 := World.ownsRow.cellAt h2 (j * 2 + 1) (by omega)
        obtain ⟨e0, e1⟩ := cellsS_at l j hj
        rw [Nat.zero_add]
        exact ⟨h5.trans e0, h6.trans e1⟩
  · omega
/-- The value is a slice that reads as l. -/
def isSl (w : World) (v : Value) (L : List (Int × Int)) : Prop := ∃ A cap, v = .slice (some A) L.length cap ∧ RdT w (some A) L
theorem isSl_keep {w w' : World} {v : Value} {l : List (Int × Int)} (h : isSl w v l) (hs : w.heap.size ≤ w'.heap.size) (hk : ∀ k, k < w.heap.size → NoRow w k → w'.heap[k]? = w.heap[k]?) : isSl w' v l := by
  obtain ⟨A, cap, rfl, h⟩ := h
  exact ⟨A, cap, rfl, RdT_keep h hs hk⟩
/-- The slice value v owns a row of slices, each of which reads as its Slots. -/
def ownsSS (w : World) (B : Nat) (v : Value) (LL : List (List (Int × Int))) : Prop :=
  ∃ vs : List Value, ownsG w B 24 1 v LL.length vs ∧ ∀ i, i < LL.length → isSl w (vs.getD i undef) (LL.getD i [])
theorem ownsSS_zero (w : World) (B : Nat) (a : Addr) : ownsSS w B (.slice (some a) 0 0) [] := ⟨[], .inr ⟨rfl, rfl, a, rfl⟩, fun i hi => by simp at hi⟩
theorem ownsSS_below {w w' : World} {B C : Nat} {v : Value} {LL : List (List (Int × Int))} (h : ownsSS w B v LL) (hb : Below w.heap.size w w') (hC : C ≤ B) : ownsSS w' C v LL := by
  obtain ⟨vs, h1, h3⟩ := h
  exact ⟨vs, ownsG_below h1 hb hC, fun i hi => isSl_keep (h3 i hi) hb.size fun k hk _ => hb.block k hk⟩
theorem ownsSS_typed {w : World} {B : Nat} {v : Value} {LL : List (List (Int × Int))} (h : ownsSS w B v LL) (k : Nat) (hk : effB v = some k) : ¬ NoRow w k ∧ B ≤ k ∧ k < w.heap.size := by
  obtain ⟨vs, h1, _⟩ := h
  refine ⟨?_, eff_own h1 k hk⟩
  rcases h1 with h1 | ⟨_, _, a, rfl⟩
  · rcases h1.2 with ⟨rfl, _⟩ | ⟨g, cap, cur, rfl, _, hg, _⟩
    · simp [effB] at hk
    · cases cap with
      | zero => simp [effB] at hk
      | succ c =>
        simp only [effB, Option.some.injEq] at hk
        subst hk
        exact fun h => h _ _ hg
  · simp [effB] at hk
/-- A slice of slices that is read alone. -/
def RdSS (w : World) (b off : Nat) (LL : List (List (Int × Int))) : Prop :=
  b < w.heap.size ∧ ∀ j, j < LL.length → ∃ A cap, w.cell? ⟨b, off + j, none⟩ = some (.slice (some A) (LL.getD j []).length cap) ∧ RdT w (some A) (LL.getD j [])
theorem RdSS_keep {w w' : World} {b off : Nat} {LL : List (List (Int × Int))} (h : RdSS w b off LL) (hs : w.heap.size ≤ w'.heap.size) (hb : w'.heap[b]? = w.heap[b]?) (hk : ∀ k, k < w.heap.size → NoRow w k → w'.heap[k]? = w.heap[k]?) : RdSS w' b off LL := by
  refine ⟨Nat.lt_of_lt_of_le h.1 hs, fun j hj => ?_⟩
  obtain ⟨A, cap, h1, h2⟩ := h.2 j hj
  exact ⟨A, cap, (World.cell?_of_block hb).trans h1, RdT_keep h2 hs hk⟩
theorem RdSS_below {w w' : World} {b off : Nat} {LL : List (List (Int × Int))} (h : RdSS w b off LL) (hb : Below w.heap.size w w') : RdSS w' b off LL := RdSS_keep h hb.size (hb.block b h.1) fun k hk _ => hb.block k hk
theorem RdSS_owns {w : World} {B : Nat} {v : Value} {LL : List (List (Int × Int))} (h : ownsSS w B v LL) (hp : 0 < LL.length) : ∃ g cap, v = .slice (some ⟨g, 0, none⟩) LL.length cap ∧ B ≤ g ∧ RdSS w g 0 LL := by
  obtain ⟨vs, h1, h3⟩ := h
  have hlen := ownsG_len h1
  obtain ⟨ao, cap, rfl, ⟨hn, _⟩ | ⟨g, rfl, hb, hg, hc, hcell, _⟩⟩ := ownsG_shape h1
  · omega
  · refine ⟨g, cap, rfl, hb, hg, fun j hj => ?_⟩
    obtain ⟨A, cap', he, ho⟩ := h3 j hj
    refine ⟨A, cap', ?_, ho⟩
    rw [Nat.zero_add, hcell j (by omega), ← he]
    simp [show j < vs.length by omega]
/-- append of one slice to a row of slices. -/
theorem runAppendSS (w : World) (ty : TypeId) (B : Nat) (v : Value) (LL : List (List (Int × Int))) (hown : ownsSS w B v LL) (ad : Addr) (u : Value) (L : List (Int × Int)) (hu : isSl w u L) (hc : w.cell? (ad.add 0) = some u) (hn : LL.length ≤ 1000000) (hB : B ≤ w.heap.size) :
    ∃ ao cap w', (Builtin.append_ #[49, 49] ty #[v, .slice (some ad) 1 1]).run Try.prog w = .ok (.slice ao (LL.length + 1) cap) w' ∧ ownsSS w' B (.slice ao (LL.length + 1) cap) (LL ++ [L]) ∧ Below B w w' ∧
      (∀ k, k < w.heap.size → effB v ≠ some k → w'.heap[k]? = w.heap[k]?) ∧ (∀ k, effB (Value.slice ao (LL.length + 1) cap) = some k → k < w'.heap.size ∧ (effB v = some k ∨ w.heap.size ≤ k)) := by
  obtain ⟨i0, hi, hz0, hz1, hz2⟩ := info_parts infoSlots
  have htyped := ownsSS_typed hown
  obtain ⟨vs, h1, h3⟩ := hown
  have hlv := ownsG_len h1
  simp only [Nat.mul_one] at hlv
  have hu1 : u.oneCell' = true := by obtain ⟨A, cap, rfl, _⟩ := hu; rfl
  have hcell : ∀ j u2, ([u] : List Value)[j]? = some u2 → w.cell? (ad.add j) = some u2 := fun j u2 hj => by
    have h0 : j = 0 := by have := (List.getElem?_eq_some_iff.1 hj).1; simpa using this
    subst h0
    simp at hj
    rw [hc, hj]
  have fin : ∀ (v' : Value) (w' : World), w'.ownsRow B 24 1 v' (LL.length + 1) (vs ++ [u]) → Below B w w' → (∀ k, k < w.heap.size → effB v ≠ some k → w'.heap[k]? = w.heap[k]?) → (∀ k, v'.ownBlock = some k → effB v = some k ∨ w.heap.size ≤ k) →
      ∃ ao cap, v' = .slice ao (LL.length + 1) cap ∧ ownsSS w' B (.slice ao (LL.length + 1) cap) (LL ++ [L]) ∧ (∀ k, effB (Value.slice ao (LL.length + 1) cap) = some k → k < w'.heap.size ∧ (effB v = some k ∨ w.heap.size ≤ k)) := by
    intro v' w' hr hb hk hat
    rcases hr.2 with ⟨h0, _⟩ | ⟨g, cap, cur, rfl, _, hg, _⟩
    · omega
    · have hkeep : ∀ k, k < w.heap.size → NoRow w k → w'.heap[k]? = w.heap[k]? := fun k hlt hno => hk k hlt fun he => (htyped k he).1 hno
      refine ⟨_, cap, rfl, ⟨vs ++ [u], .inl (by simpa using hr), fun i hi => ?_⟩, fun k hk2 => ⟨(eff_own (.inl hr) k hk2).2, by
        cases cap with
        | zero => simp [effB] at hk2
        | succ c => exact hat k (by simpa [effB, Value.ownBlock] using hk2)⟩⟩
      by_cases hlt : i < LL.length
      · have e1 : (vs ++ [u]).getD i undef = vs.getD i undef := by simp [List.getElem?_append_left (show i < vs.length by omega)]
        have e2 : (LL ++ [L]).getD i [] = LL.getD i [] := by simp [List.getElem?_append_left hlt]
        rw [e1, e2]
        exact isSl_keep (h3 i hlt) hb.size hkeep
      · have hi2 : i = LL.length := by simp at hi; omega
        subst hi2
        have e1 : (vs ++ [u]).getD LL.length undef = u := by rw [← hlv]; simp
        have e2 : (LL ++ [L]).getD LL.length [] = L := by simp
        rw [e1, e2]
        exact isSl_keep hu hb.size hkeep
  by_cases hzero : ∃ a0, v = .slice (some a0) 0 0
  · obtain ⟨a0, rfl⟩ := hzero
    have hn0 : LL.length = 0 := by
      rcases h1 with h2 | ⟨h2, _⟩
      · rcases h2.2 with ⟨h5, _⟩ | ⟨g, cap, cur, h5, _⟩
        · cases h5
        · simp only [Value.slice.injEq] at h5; omega
      · exact h2
    have hv0 : vs = [] := List.eq_nil_of_length_eq_zero (by omega)
    subst hv0
    obtain ⟨v', w', hr, r1, r2⟩ := run_append_arg_grows (P := Try.prog) w 49 ty 24 i0 (.slice none 0 0) 1 24 Try.underlying49 hi hz0 hz1 hz2 rfl (by decide) a0 0 0 [] rfl (by intro j u2 h; simp at h) ad 1 1 [u] rfl hcell (by decide) (by decide) (by decide)
    have hr2 : w'.ownsRow B 24 1 v' (LL.length + 1) ([] ++ [u]) := by
      rw [hn0]
      refine ⟨r1.1, ?_⟩
      rcases r1.2 with h2 | ⟨g, cap, cur, hv, hBg, r⟩
      · exact .inl h2
      · exact .inr ⟨g, cap, cur, hv, by omega, r⟩
    have hb : Below B w w' := (Below.refl B w).grown r2 hB (fun k hk => by cases hk)
    have hk : ∀ k, k < w.heap.size → effB (.slice (some a0) 0 0) ≠ some k → w'.heap[k]? = w.heap[k]? := fun k hk _ => r2.block k hk (by simp)
    obtain ⟨ao, cap, rfl, g1, g2⟩ := fin v' w' hr2 hb hk (fun k hk2 => by
      right
      rcases r1.2 with ⟨h0, _⟩ | ⟨g, cap, cur, rfl, hBg, _⟩
      · omega
      · simp only [Value.ownBlock, Option.some.injEq] at hk2
        omega)
    exact ⟨ao, cap, w', hr, g1, hb, hk, g2⟩
  · rcases h1 with hown | ⟨_, _, a0, rfl⟩
    · have heff : effB v = v.ownBlock := by
        rcases hown.2 with ⟨rfl, _⟩ | ⟨g, cap, cur, rfl, _, _, hnc, _⟩
        · rfl
        · cases cap with
          | zero => exact absurd ⟨_, by rw [show LL.length = 0 by omega]⟩ hzero
          | succ c => rfl
      obtain ⟨v', w', hr, h5, h6, _, hat⟩ := run_append_own_at (P := Try.prog) w B 49 ty 24 i0 (.slice none 0 0) 1 24 Try.underlying49 hi hz0 hz1 hz2 rfl (by decide) v LL.length vs hown ad 1 1 [u] rfl hcell (by simpa using hu1) (by unfold maxLen; omega) (by omega) hB
      have hb : Below B w w' := (Below.refl B w).grown h6 hB (fun k hk => (World.ownsRow.lt hown k hk).1)
      have hk : ∀ k, k < w.heap.size → effB v ≠ some k → w'.heap[k]? = w.heap[k]? := fun k hk hne => h6.block k hk (fun e => hne (by rw [heff]; exact e.symm))
      obtain ⟨ao, cap, rfl, g1, g2⟩ := fin v' w' h5 hb hk (fun k hk2 => by
        rw [heff]
        rcases hat with hat | hat
        · exact .inl (hat.symm.trans hk2)
        · right
          rw [hat] at hk2
          simp only [Option.some.injEq] at hk2
          omega)
      exact ⟨ao, cap, w', hr, g1, hb, hk, g2⟩
    · exact absurd ⟨a0, rfl⟩ hzero
theorem stepAppendSS {ops : Array Oper} {o : Oper} {a : Act} {w : World} {K' : Act → World → Prop} {Q : Exit → Act → World → Prop} {E : Prop} (hgd : o.guard = none) (s x : Operand)
    (ho : o.op = .call { callee := .builtin .append, args := #[s, x], argTypes := #[49, 49] })
    (B : Nat) (v : Value) (LL : List (List (Int × Int))) (hs : a.eval s = v) (hown : ownsSS w B v LL) (ad : Addr) (u : Value) (L : List (Int × Int)) (hx : a.eval x = .slice (some ad) 1 1) (hu : isSl w u L) (hc : w.cell? (ad.add 0) = some u) (hn : LL.length ≤ 1000000) (hB : B ≤ w.heap.size)
    (h : ∀ ao cap w', ownsSS w' B (.slice ao (LL.length + 1) cap) (LL ++ [L]) → Below B w w' → (∀ k, k < w.heap.size → effB v ≠ some k → w'.heap[k]? = w.heap[k]?) → (∀ k, effB (Value.slice ao (LL.length + 1) cap) = some k → k < w'.heap.size ∧ (effB v = some k ∨ w.heap.size ≤ k)) → K' (a.put o.dst (.slice ao (LL.length + 1) cap)) w') :
    if Region.wanted o (yielded ops a.tmps) = true then Oper.wp Try.prog o a w K' Q else E := by
  have hw : Region.wanted o (yielded ops a.tmps) = true := by simp [Region.wanted, hgd]
  rw [if_pos hw]
  obtain ⟨ao, cap, w', hr, h2, h3, h4, h5⟩ := runAppendSS w o.type B v LL hown ad u L hu hc hn hB
  unfold Oper.wp execOp
  simp only [ho, resolve, invoke, builtin, Sem.run_bind, Sem.run_pure, Result.andThen_ok, List.map_toArray, List.map_cons, List.map_nil, hs, hx, hr]
  exact h ao cap w' h2 h3 h4 h5
/-- append to a literal of one Slot. -/
theorem runAppendLit (w : World) (ty : TypeId) (b : Nat) (x : Int × Int) (hb : RdT w (some ⟨b, 0, none⟩) [x]) (ad : Addr) (m c : Nat) (l2 : List (Int × Int)) (hl2 : l2.length = m) (hrd : RdS w (some ad) l2) (hm : m ≤ 1000) :
    ∃ A cap w', (Builtin.append_ #[24, 24] ty #[.slice (some ⟨b, 0, none⟩) 1 1, .slice (some ad) m c]).run Try.prog w = .ok (.slice (some A) (m + 1) cap) w' ∧ RdT w' (some A) (x :: l2) ∧ Below w.heap.size w w' := by
  obtain ⟨i0, hi, hz0, hz1, hz2⟩ := info_parts infoSlot
  by_cases h0 : m = 0
  · subst h0
    have hl20 : l2 = [] := List.eq_nil_of_length_eq_zero hl2
    subst hl20
    refine ⟨⟨b, 0, none⟩, 1, w, ?_, hb, Below.refl _ _⟩
    have := run_append_room_cells (P := Try.prog) w 24 ty 48 i0 Try.underlying24 hi b 0 1 1 ad 0 c [] (by simp) (by intro j u h; simp at h) (by intro u h; simp at h) (by omega) (by intro j h; simp at h) (by intro j h; simp at h)
    simpa [World.setCells] using this
  · have hcl : (cellsS l2).length = m * 2 := by rw [cellsS_length, hl2]
    obtain ⟨v', w', hr, r1, r2⟩ := run_append_arg_grows (P := Try.prog) w 24 ty 48 i0 (.agg #[.int .i64 0, .int .i64 0]) 2 16 Try.underlying24 hi hz0 hz1 hz2 rfl (by decide) ⟨b, 0, none⟩ 1 1 (cellsS [x]) (cellsS_length _) (RdS_cells (RdT_rd hb)) ad m c (cellsS l2) hcl (RdS_cells hrd) (by omega) (by unfold maxLen; omega) (by omega)
    rw [← cellsS_append] at r1
    have ho : ownsS w' w.heap.size v' (x :: l2) := by
      refine .inl ?_
      have e : (x :: l2).length = 1 + m := by rw [List.length_cons, hl2]; omega
      rw [e]
      exact r1
    rcases r1.2 with ⟨_, h9⟩ | ⟨g, cap, cur, rfl, hBg, h9⟩
    · omega
    · exact ⟨⟨g, 0, none⟩, cap, w', by rw [hr, Nat.add_comm], RdT_owns ho, (Below.refl _ w).grown r2 (Nat.le_refl _) (fun k hk => by cases hk)⟩
theorem stepAppendLit {ops : Array Oper} {o : Oper} {a : Act} {w : World} {K' : Act → World → Prop} {Q : Exit → Act → World → Prop} {E : Prop} (hgd : o.guard = none) (s y : Operand)
    (ho : o.op = .call { callee := .builtin .append, args := #[s, y], argTypes := #[24, 24] })
    (b : Nat) (x : Int × Int) (hs : a.eval s = .slice (some ⟨b, 0, none⟩) 1 1) (hb : RdT w (some ⟨b, 0, none⟩) [x]) (ad : Addr) (m c : Nat) (l2 : List (Int × Int)) (hy : a.eval y = .slice (some ad) m c) (hl2 : l2.length = m) (hrd : RdS w (some ad) l2) (hm : m ≤ 1000)
    (h : ∀ A cap w', RdT w' (some A) (x :: l2) → Below w.heap.size w w' → K' (a.put o.dst (.slice (some A) (m + 1) cap)) w') :
    if Region.wanted o (yielded ops a.tmps) = true then Oper.wp Try.prog o a w K' Q else E := by
  have hw : Region.wanted o (yielded ops a.tmps) = true := by simp [Region.wanted, hgd]
  rw [if_pos hw]
  obtain ⟨A, cap, w', hr, h2, h3⟩ := runAppendLit w o.type b x hb ad m c l2 hl2 hrd hm
  unfold Oper.wp execOp
  simp only [ho, resolve, invoke, builtin, Sem.run_bind, Sem.run_pure, Result.andThen_ok, List.map_toArray, List.map_cons, List.map_nil, hs, hy, hr]
  exact h A cap w' h2 h3
theorem RdT_new (W : World) (x y : Int) (T : TypeId) (hT : T ≠ 24) : RdT (W.alloc (.cells #[.int .i64 x, .int .i64 y] T)) (some ⟨W.heap.size, 0, none⟩) [(x, y)] := by
  rcases RdS_new W x y T with h | ⟨b, off, h, h2, h3⟩
  · cases h
  · cases h
    refine .inr ⟨_, _, rfl, h2, ?_, h3⟩
    intro cur z hc
    have := heap_alloc_new W (.cells #[.int .i64 x, .int .i64 y] T)
    rw [this] at hc
    simp only [Option.some.injEq, Obj.cells.injEq] at hc
    exact hT hc.2.1
end Go.Proofs.Ytjcbffkdemadnaa
