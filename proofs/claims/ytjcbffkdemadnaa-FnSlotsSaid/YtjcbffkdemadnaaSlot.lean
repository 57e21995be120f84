/- Slices of Slots: how they are read, what is owned of them; the law's own helpers on them. -/
import Derived.Test.YtjcbffkdemadnaaMarks
import Derived.Test.YtjcbffkdemadnaaMarkO
import Derived.Lib.Hide
import Derived.Deep.RegionHeld3
import Derived.Deep.AppendLies
import Derived.ArgAppend
namespace Go.Proofs.Ytjcbffkdemadnaa
open Go.RowKit

/-- The cells of a Slot, of a list of Slots. -/
def encS (x : Int × Int) : List Value := [.int .i64 x.1, .int .i64 x.2]
def cellsS (l : List (Int × Int)) : List Value := l.flatMap encS
theorem cellsS_length (l : List (Int × Int)) : (cellsS l).length = l.length * 2 := by
  unfold cellsS
  induction l with
  | nil => rfl
  | cons x l ih => simp [encS] at ih ⊢; omega
theorem cellsS_append (a b : List (Int × Int)) : cellsS (a ++ b) = cellsS a ++ cellsS b := by simp [cellsS]
theorem cellsS_cons (x : Int × Int) (l : List (Int × Int)) : cellsS (x :: l) = .int .i64 x.1 :: .int .i64 x.2 :: cellsS l := by simp [cellsS, encS]
theorem cellsS_at (l : List (Int × Int)) (j : Nat) (hj : j < l.length) : (cellsS l)[j * 2]? = some (.int .i64 (l.getD j (0, 0)).1) ∧ (cellsS l)[j * 2 + 1]? = some (.int .i64 (l.getD j (0, 0)).2) := by
  induction l generalizing j with
  | nil => simp at hj
  | cons x l ih =>
    rw [cellsS_cons]
    cases j with
    | zero => simp
    | succ j =>
      have := ih j (by simpa using hj)
      rw [show (j + 1) * 2 = j * 2 + 2 by omega, show j * 2 + 2 + 1 = (j * 2 + 1) + 2 by omega]
      simpa using this
theorem cellsS_set0 (l : List (Int × Int)) (j : Nat) (z : Int) (hj : j < l.length) : (cellsS l).set (j * 2) (.int .i64 z) = cellsS (l.set j (z, (l.getD j (0, 0)).2)) := by
  induction l generalizing j with
  | nil => simp at hj
  | cons x l ih =>
    cases j with
    | zero => simp [cellsS_cons]
    | succ j =>
      have := ih j (by simpa using hj)
      rw [show (j + 1) * 2 = j * 2 + 2 by omega]
      simpa [cellsS_cons] using this
theorem cellsS_set1 (l : List (Int × Int)) (j : Nat) (z : Int) (hj : j < l.length) : (cellsS l).set (j * 2 + 1) (.int .i64 z) = cellsS (l.set j ((l.getD j (0, 0)).1, z)) := by
  induction l generalizing j with
  | nil => simp at hj
  | cons x l ih =>
    cases j with
    | zero => simp [cellsS_cons]
    | succ j =>
      have := ih j (by simpa using hj)
      rw [show (j + 1) * 2 + 1 = (j * 2 + 1) + 2 by omega]
      simpa [cellsS_cons] using this
theorem cellsS_one (l : List (Int × Int)) : ∀ u ∈ cellsS l, u.oneCell' = true := by
  intro u hu
  unfold cellsS at hu
  rw [List.mem_flatMap] at hu
  obtain ⟨x, _, hx⟩ := hu
  simp [encS] at hx
  rcases hx with rfl | rfl <;> rfl
theorem infoSlot : (Try.prog.info? 48).map (fun i => (i.zero, i.size, i.bytes)) = some (some (.agg #[.int .i64 0, .int .i64 0]), 2, 16) := by kernel_rfl
/-- The slice value v owns a row of the Slots l, in a block from B on. -/
def ownsS (w : World) (B : Nat) (v : Value) (l : List (Int × Int)) : Prop := ownsG w B 48 2 v l.length (cellsS l)
theorem ownsS_nil (w : World) (B : Nat) : ownsS w B (.slice none 0 0) [] := .inl (World.ownsRow_nil w B _ _)
theorem ownsS_zero (w : World) (B : Nat) (a : Addr) : ownsS w B (.slice (some a) 0 0) [] := .inr ⟨rfl, rfl, a, rfl⟩
theorem ownsS_below {w w' : World} {B C : Nat} {v : Value} {l : List (Int × Int)} (h : ownsS w B v l) (hb : Below w.heap.size w w') (hC : C ≤ B) : ownsS w' C v l := ownsG_below h hb hC
theorem ownsS_shape {w : World} {B : Nat} {v : Value} {l : List (Int × Int)} (h : ownsS w B v l) : ∃ ao cap, v = .slice ao l.length cap ∧
    (l = [] ∨ ∃ g, ao = some ⟨g, 0, none⟩ ∧ B ≤ g ∧ g < w.heap.size ∧ l.length ≤ cap ∧ (∀ j, j < l.length → w.cell? ⟨g, j * 2, none⟩ = some (.int .i64 (l.getD j (0, 0)).1) ∧ w.cell? ⟨g, j * 2 + 1, none⟩ = some (.int .i64 (l.getD j (0, 0)).2)) ∧ ∀ j, w.frozen? ⟨g, j, none⟩ = false) := by
  obtain ⟨ao, cap, rfl, ⟨hn, _⟩ | ⟨g, rfl, hb, hg, hc, hcell, hf, _⟩⟩ := ownsG_shape h
  · exact ⟨ao, cap, rfl, .inl (List.eq_nil_of_length_eq_zero hn)⟩
  · refine ⟨_, cap, rfl, .inr ⟨g, rfl, hb, hg, hc, fun j hj => ?_, hf⟩⟩
    obtain ⟨h0, h1⟩ := cellsS_at l j hj
    exact ⟨(hcell _ (by omega)).trans h0, (hcell _ (by omega)).trans h1⟩
/-- A slice at ao reads as the Slots l. -/
def RdS (w : World) (ao : Option Addr) (l : List (Int × Int)) : Prop :=
  l = [] ∨ ∃ b off, ao = some ⟨b, off, none⟩ ∧ b < w.heap.size ∧ ∀ j, j < l.length → w.cell? ⟨b, off + j * 2, none⟩ = some (.int .i64 (l.getD j (0, 0)).1) ∧ w.cell? ⟨b, off + j * 2 + 1, none⟩ = some (.int .i64 (l.getD j (0, 0)).2)
theorem RdS_below {w w' : World} {ao : Option Addr} {l : List (Int × Int)} (h : RdS w ao l) (hb : Below w.heap.size w w') : RdS w' ao l := by
  rcases h with h | ⟨b, off, rfl, hlt, hc⟩
  · exact .inl h
  · have := hb.size
    exact .inr ⟨b, off, rfl, by omega, fun j hj => ⟨(hb.cell (p := ⟨b, off + j * 2, none⟩) (by show b < _; omega)).trans (hc j hj).1, (hb.cell (p := ⟨b, off + j * 2 + 1, none⟩) (by show b < _; omega)).trans (hc j hj).2⟩⟩
theorem RdS_owns {w : World} {B : Nat} {ao : Option Addr} {n cap : Nat} {l : List (Int × Int)} (h : ownsS w B (.slice ao n cap) l) : RdS w ao l := by
  obtain ⟨ao', cap', he, hL | ⟨g, rfl, _, hlt, _, hc, _⟩⟩ := ownsS_shape h
  · exact .inl hL
  · simp only [Value.slice.injEq] at he
    obtain ⟨rfl, _, _⟩ := he
    exact .inr ⟨g, 0, rfl, hlt, fun j hj => by simpa using hc j hj⟩
theorem ownsS_at {w : World} {B g n cap : Nat} {l : List (Int × Int)} (h : ownsS w B (.slice (some ⟨g, 0, none⟩) n cap) l) (k : Nat) (hk : k < l.length) :
    w.cell? ⟨g, k * 2, none⟩ = some (.int .i64 (l.getD k (0, 0)).1) ∧ w.cell? ⟨g, k * 2 + 1, none⟩ = some (.int .i64 (l.getD k (0, 0)).2) ∧ w.frozen? ⟨g, k * 2, none⟩ = false ∧ w.frozen? ⟨g, k * 2 + 1, none⟩ = false ∧ B ≤ g ∧ g < w.heap.size := by
  obtain ⟨ao', cap', he, hL | ⟨g', rfl, hB, hlt, _, hc, hf⟩⟩ := ownsS_shape h
  · rw [hL] at hk; simp at hk
  · simp only [Value.slice.injEq, Option.some.injEq, Addr.mk.injEq] at he
    obtain ⟨⟨rfl, -⟩, -⟩ := he
    exact ⟨(hc k hk).1, (hc k hk).2, hf _, hf _, hB, hlt⟩
theorem ownsS_set0 {w : World} {B g n cap : Nat} {l : List (Int × Int)} (h : ownsS w B (.slice (some ⟨g, 0, none⟩) n cap) l) (hn : l.length = n) (j : Nat) (hj : j < l.length) (z : Int) :
    ownsS (w.setCell ⟨g, j * 2, none⟩ (.int .i64 z)) B (.slice (some ⟨g, 0, none⟩) n cap) (l.set j (z, (l.getD j (0, 0)).2)) := by
  subst hn
  rcases h with h | ⟨h0, h1, a, h2⟩
  · have := (World.ownsRow.stored h (j * 2) (.int .i64 z)).1
    rw [cellsS_set0 l j z hj] at this
    exact .inl (by simpa using this)
  · omega
theorem ownsS_set1 {w : World} {B g n cap : Nat} {l : List (Int × Int)} (h : ownsS w B (.slice (some ⟨g, 0, none⟩) n cap) l) (hn : l.length = n) (j : Nat) (hj : j < l.length) (z : Int) :
    ownsS (w.setCell ⟨g, j * 2 + 1, none⟩ (.int .i64 z)) B (.slice (some ⟨g, 0, none⟩) n cap) (l.set j ((l.getD j (0, 0)).1, z)) := by
  subst hn
  rcases h with h | ⟨h0, h1, a, h2⟩
  · have := (World.ownsRow.stored h (j * 2 + 1) (.int .i64 z)).1
    rw [cellsS_set1 l j z hj] at this
    exact .inl (by simpa using this)
  · omega
theorem ownsS_put {w : World} {B g n cap : Nat} {l : List (Int × Int)} (h : ownsS w B (.slice (some ⟨g, 0, none⟩) n cap) l) (hn : l.length = n) (j : Nat) (hj : j < l.length) (x : Int × Int) :
    ownsS ((w.setCell ⟨g, j * 2, none⟩ (.int .i64 x.1)).setCell ⟨g, j * 2 + 1, none⟩ (.int .i64 x.2)) B (.slice (some ⟨g, 0, none⟩) n cap) (l.set j x) := by
  have h2 := ownsS_set1 (ownsS_set0 h hn j hj x.1) (by simpa using hn) j (by simpa using hj) x.2
  rw [List.set_set] at h2
  simpa [hj] using h2
theorem eqSlot_same (x : Int × Int) (w : World) : Calls Try.prog 40 #[.agg #[.int .i64 x.1, .int .i64 x.2], .agg #[.int .i64 x.1, .int .i64 x.2]] w
    fun e w' => e = .returned (.bool true) ∧ Below w.heap.size w w' := by
  have hA1 := @cellAlloc; have hA2 := @frozenAlloc; have hA3 := @setCellAlloc; go_enter Try.func40, Try.ntmps40
  go_wp2
  go_ret
  exact ⟨rfl, by (repeat (first | assumption | exact Below.refl _ _ | refine belowThen ?_ (Go.Joins.below_alloc1 _ _) | apply Below.drew | refine belowThen ?_ (by assumption) | refine belowThen ?_ (Go.Joins.below_draws _ _ _) | refine Below.setCell ?_ (by first | exact Nat.le_refl _ | (simp; done) | (simp; omega)) _))⟩
theorem toSlot_any (x : Int × Int) (w : World) : Calls Try.prog 30 #[.agg #[.int .i64 x.1, .int .i64 x.2]] w
    fun e w' => e = .returned (.agg #[.int .i64 x.1, .int .i64 x.2]) ∧ Below w.heap.size w w' := by
  go_enter Try.func30, Try.ntmps30
  go_wp2
  exact bodyPost_ret (v := .agg #[.int .i64 x.1, .int .i64 x.2]) (by simp [results, Try.results30, go_sem]) rfl ⟨rfl, by (repeat (first | assumption | exact Below.refl _ _ | refine belowThen ?_ (Go.Joins.below_alloc1 _ _) | apply Below.drew | refine belowThen ?_ (by assumption) | refine belowThen ?_ (Go.Joins.below_draws _ _ _) | refine Below.setCell ?_ (by first | exact Nat.le_refl _ | (simp; done) | (simp; omega)) _))⟩
end Go.Proofs.Ytjcbffkdemadnaa
