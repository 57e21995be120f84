/- What a law needs beside: an argument that is a slice of Slots, its size, marks on a slice that may be empty. -/
import Derived.Test.YtjcbffkdemadnaaSlotS
import Derived.Test.YtjcbffkdemadnaaLsB
import Derived.Deep.SlicePairs
import Derived.Lib.Hide
namespace Go.Proofs.Ytjcbffkdemadnaa
open Go.RowKit

/-- The number in a value. -/
def zOf : Value → Int
  | .int _ z => z
  | _ => 0
theorem slots_open {H : Type} {enc : TypeId × Value → H} {W : World} {base : Nat} {spare : Nat → Bool} {held : Bool} {fuel : Nat} {ao : Option Addr} {len cap : Nat} {x : DataW H × List MemPlace}
    (hf : DataW.trod enc Try.prog W base spare held fuel 22 (Value.slice ao len cap).cells.toList = some x) : ∃ l : List (Int × Int), RdS W ao l ∧ l.length = len ∧ len ≤ maxLen := by
  rcases Go.Deep.open_slice_pairs Try.underlying22 Try.underlying53 (by kernel_rfl) rfl rfl (by kernel_rfl) (by kernel_rfl) hf with ⟨hcs, _⟩ | ⟨a, len', cap', m, n, V0, V1, D0, D1, P0, P1, hcs, _, hl, hm, hmm, _, hx⟩
  · simp [Value.cells] at hcs
    obtain ⟨rfl, rfl, rfl⟩ := hcs
    exact ⟨[], .inl rfl, rfl, Nat.zero_le _⟩
  · simp [Value.cells] at hcs
    obtain ⟨rfl, rfl, rfl⟩ := hcs
    have hlm : len ≤ m := by rw [hmm]; split <;> omega
    refine ⟨(List.range len).map fun i => (zOf (V0 i), zOf (V1 i)), ?_, by simp, by omega⟩
    by_cases h0 : len = 0
    · subst h0; exact .inl rfl
    · obtain ⟨b, off, spot⟩ := a
      have hspot : spot = none := by simpa [Addr.add] using World.cell?_spot (hx 0 (by omega)).1
      subst hspot
      have h00 := (hx 0 (by omega)).1
      rw [Go.WideShapes.add_plain] at h00
      refine .inr ⟨b, off, rfl, World.block_lt_of_cell? W _ h00, fun j hj => ?_⟩
      have hj' : j < len := by simpa using hj
      obtain ⟨c0, c1, t0, t1⟩ := hx j (by omega)
      rw [Go.WideShapes.add_plain] at c0 c1
      obtain ⟨z0, e0, _, _⟩ := DataW.trod_int Try.underlying3 t0
      obtain ⟨z1, e1, _, _⟩ := DataW.trod_int Try.underlying3 t1
      simp only [List.cons.injEq, and_true] at e0 e1
      rw [e0] at c0
      rw [e1] at c1
      simp only [List.getD_eq_getElem?_getD, List.getElem?_map, List.getElem?_range hj', Option.map_some, Option.getD_some, e0, e1, zOf]
      exact ⟨c0, by rw [← c1, Nat.add_assoc]⟩
theorem szSlotS_any (ao : Option Addr) (n cap : Nat) (w : World) (hm : n ≤ maxLen) : Calls Try.prog 5 #[.slice ao n cap, .int .i64 1048576] w
    fun e w' => e = .returned (.int .i64 (if n ≤ 1048576 then 1048576 - (n : Int) else -1)) ∧ w = w' := by
  unfold maxLen at hm
  by_cases h : n ≤ 1048576
  · rw [if_pos h]
    have hw : IntKind.i64.wrap (1048576 - (n : Int)) = 1048576 - (n : Int) := by rw [IntKind.wrap_i64]; omega
    have hd : decide ((1048576 : Int) - (n : Int) < 0) = false := by simp; omega
    go_enter Try.func5, Try.ntmps5
    go_wp2
    go_ret
    exact ⟨rfl, rfl⟩
  · rw [if_neg h]
    have hw : IntKind.i64.wrap (1048576 - (n : Int)) = 1048576 - (n : Int) := by rw [IntKind.wrap_i64]; omega
    have hd : decide ((1048576 : Int) - (n : Int) < 0) = true := by simp; omega
    go_enter Try.func5, Try.ntmps5
    go_wp2
    go_ret
    exact ⟨rfl, rfl⟩
theorem markSlotS_any (B : Nat) (ao : Option Addr) (n cap : Nat) (l : List (Int × Int)) (w : World) (ho : ownsS w B (.slice ao n cap) l) (hn : l.length = n) (hm : n ≤ 1048576) :
    Calls Try.prog 10 #[.slice ao n cap, .int .i64 1] w fun e w' => e = .returned (.int .i64 (1 + (n * 2 : Nat))) ∧ RdS w' ao (marksT n) ∧ Below B w w' := by
  obtain ⟨ao', cap', he, hL | ⟨g, rfl, _⟩⟩ := ownsS_shape ho
  · subst hL
    have hn0 : n = 0 := by simpa using hn.symm
    subst hn0
    clear ho he hn
    go_enter Try.func10, Try.ntmps10
    go_wp2
    refine wp_loop_rounds 1 ?_
    rw [rounds_succ]
    go_wp2
    go_ret
    exact ⟨rfl, .inl (by simp [marksT]), Below.refl _ _⟩
  · simp only [Value.slice.injEq] at he
    obtain ⟨rfl, -, -⟩ := he
    refine (markSlotS_only B g n cap l w ho hn hm).mono ?_
    rintro e w' ⟨rfl, h1, _, h3⟩
    exact ⟨rfl, RdS_owns h1, h3⟩
theorem own_ltS {w : World} {B C g n cap : Nat} {l : List (Int × Int)} (h : ownsS w B (.slice (some ⟨g, 0, none⟩) n cap) l) (hn : l.length = n) (hC : w.heap.size ≤ C) : n = 0 ∨ g < C := by
  rcases Nat.eq_zero_or_pos n with h0 | h0
  · exact .inl h0
  · exact .inr (Nat.lt_of_lt_of_le (ownsS_at h 0 (by omega)).2.2.2.2.2 hC)
/-- The best sequence is a sequence of all Slots. -/
theorem lsO_perm (l : List (Int × Int)) : ∃ b, lsO l = some b ∧ b.Perm l ∧ ∀ s, s.Perm l → swF b ≤ swF s := by
  have hp := seqS_perm l.length (sortS l) (sortS_length l)
  have e : (fun x : List (Int × Int) => [] ++ x) = id := funext fun x => List.nil_append x
  have hf : lsO l = (seqS (sortS l)).foldl updS none := by unfold lsO stF; rw [e, List.map_id]
  rcases upd_least (seqS (sortS l)) none with ⟨_, h2, _⟩ | ⟨b, h1, h2, _, h4⟩
  · have := (hp (sortS l)).2 (List.Perm.refl _)
    rw [h2] at this
    simp at this
  · refine ⟨b, hf.trans h1, ?_, fun s hs => h2 s ((hp s).2 (hs.trans (sortS_perm l).symm))⟩
    rcases h4 with h4 | h4
    · exact ((hp b).1 h4).trans (sortS_perm l)
    · cases h4
theorem lsL_le (k : Int) (l : List (Int × Int)) : (lsL k l).length ≤ 6 := by
  unfold lsL
  split
  · rename_i h
    obtain ⟨b, h1, h2, _⟩ := lsO_perm l
    rw [h1]
    unfold lsB at h
    simp only [Bool.and_eq_true, decide_eq_true_eq] at h
    show b.length ≤ 6
    rw [h2.length_eq]
    exact h.2
  · simp
end Go.Proofs.Ytjcbffkdemadnaa
