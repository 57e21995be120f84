/- What FnSlots asks, plain; the law's own comparing of Slots. -/
import Derived.Test.YtjcbffkdemadnaaDrop
import Derived.Test.YtjcbffkdemadnaaSlotA
import Derived.Test.YtjcbffkdemadnaaEqSl
import Derived.Test.YtjcbffkdemadnaaBright
import Derived.Lib.Hide
namespace Go.Proofs.Ytjcbffkdemadnaa
open Go.RowKit

theorem goodS_sub {k : Int} {l m : List (Int × Int)} (h : goodS k l = true) (hl : m.length ≤ l.length) (hs : ∀ x ∈ m, x ∈ l) : goodS k m = true := by
  unfold goodS frameB at *
  simp only [Bool.and_eq_true, decide_eq_true_eq] at *
  refine ⟨h.1, by omega, ?_⟩
  rw [List.all_eq_true] at *
  exact fun x hx => h.2.2 x (hs x hx)
theorem soL_le (k : Int) (l : List (Int × Int)) : (soL k l).length ≤ 1000 := by
  unfold soL
  split
  · rename_i h
    obtain ⟨q, _, hq, h3, _⟩ := good_nat h
    rw [seenL_length, h3]
    omega
  · exact Nat.zero_le _
theorem dvL_le (k : Int) (l : List (Int × Int)) : (dvL k l).length ≤ l.length := by
  unfold dvL
  split
  · exact (dropV_all k.toNat l.length l rfl).2.2.1
  · exact Nat.zero_le _
theorem two_facts {n : Int} {s : List (Int × Int)} (h : lsB n s = true) : goodS n s = true ∧ goodS n (lsL n s) = true ∧ soN n (lsL n s) = lsN n s ∧ lsN n s ≤ soN n s ∧ (lsL n s).length = s.length ∧ soL n (lsL n s) = soL n s := by
  obtain ⟨b, h1, h2, h3⟩ := lsO_perm s
  have hg : goodS n s = true := by unfold lsB at h; simp only [Bool.and_eq_true] at h; exact h.1
  have e1 : lsL n s = b := by unfold lsL; rw [if_pos h, h1]; rfl
  have e2 : lsN n s = (swF b : Int) := by unfold lsN; rw [if_pos h, h1]; rfl
  have hgb : goodS n b = true := goodS_sub hg (Nat.le_of_eq h2.length_eq) (fun x hx => h2.subset hx)
  rw [e1, e2]
  refine ⟨hg, hgb, ?_, ?_, h2.length_eq, ?_⟩
  · unfold soN; rw [if_pos hgb]
  · unfold soN; rw [if_pos hg]; have := h3 s (List.Perm.refl _); omega
  · unfold soL; rw [if_pos hg, if_pos hgb]; exact seenL_perm _ h2
theorem ok_facts {k : Int} {l : List (Int × Int)} (h : goodS k l = true) : goodS k (dvL k l) = true ∧ soL k (dvL k l) = soL k l ∧ vsL k (dvL k l) = [] ∧ ((((vsL k l).length : Int) == 0) == (((dvL k l).length : Int) == (l.length : Int))) = true := by
  obtain ⟨d1, d2, d3, d4, d5⟩ := dropV_all k.toNat l.length l rfl
  have e : dvL k l = dropV k.toNat l := by unfold dvL; rw [if_pos h]
  have hg : goodS k (dropV k.toNat l) = true := goodS_sub h d3 d5
  rw [e]
  refine ⟨hg, ?_, ?_, ?_⟩
  · unfold soL; rw [if_pos h, if_pos hg]; exact d1
  · unfold vsL; rw [if_pos hg]
    show (vainL k.toNat (dropV k.toNat l)).map _ = []
    rw [d2]; rfl
  · have hv : (vsL k l).length = (vainL k.toNat l).length := by
      unfold vsL; rw [if_pos h]
      show ((vainL k.toNat l).map _).length = _
      rw [List.length_map]
    rw [hv]
    by_cases h0 : vainL k.toNat l = []
    · rw [h0, dropV_done _ _ h0]; simp
    · have hlt := d4 h0
      have hp : (vainL k.toNat l).length ≠ 0 := fun hc => h0 (List.eq_nil_of_length_eq_zero hc)
      have a1 : (((vainL k.toNat l).length : Int) == 0) = false := by rw [beq_eq_false_iff_ne]; omega
      have a2 : (((dropV k.toNat l).length : Int) == (l.length : Int)) = false := by rw [beq_eq_false_iff_ne]; omega
      rw [a1, a2]; rfl
theorem four_facts (n : Int) (s : List (Int × Int)) (h : brB n s = true) : decide (((brN n s).2 : Int) < 1) = false ∧ decide (((brN n s).1 : Int) < ((brN n s).2 : Int)) = false ∧ decide ((s.length : Int) < ((brN n s).1 : Int)) = false := by
  obtain ⟨h1, h2, h3⟩ := brN_facts n s
  unfold brB at h
  rw [decide_eq_true_eq] at h
  exact ⟨decide_eq_false (by omega), decide_eq_false (by omega), decide_eq_false (by omega)⟩
set_option maxRecDepth 100000 in
theorem neqSlotRun (a b : Int) (w : World) : (binOp .neq 48 (.agg #[.int .i64 a, .int .i64 b]) (.agg #[.int .i64 a, .int .i64 b])).run Try.prog w = .ok (.bool false) w := by
  rw [run_neq_struct, eqSlotV]
  simp
theorem rSlots_same (ao bo : Option Addr) (n ca cb : Nat) (L : List (Int × Int)) (w : World) (ha : RdS w ao L) (hb : RdS w bo L) (hn : L.length = n) (hm : n ≤ maxLen) :
    Calls Try.prog 16 #[.slice ao n ca, .slice bo n cb] w fun e w' => e = .returned (.bool true) ∧ Below w.heap.size w w' := by
  unfold maxLen at hm
  go_enter Try.func16, Try.ntmps16
  go_wp2
  go_loopw [5] (fun i wr => ∃ k : Nat, k ≤ n ∧ i = .int .i64 k ∧ Below w.heap.size w wr) (fun i _ => n - (intOf i).toNat)
  case atStart => exact ⟨0, by omega, rfl, Below.refl _ _⟩
  case round =>
    obtain ⟨k, hk, rfl, hbw⟩ := hrel
    by_cases hlt : k < n
    · have ha' := RdS_below ha hbw
      have hb' := RdS_below hb hbw
      rcases ha' with h | ⟨b1, o1, rfl, hb1, hc1⟩
      · rw [h] at hn; simp at hn; omega
      rcases hb' with h | ⟨b2, o2, rfl, hb2, hc2⟩
      · rw [h] at hn; simp at hn; omega
      obtain ⟨hx0, hx1⟩ := hc1 k (by omega)
      obtain ⟨hy0, hy1⟩ := hc2 k (by omega)
      generalize L.getD k (0, 0) = x at hx0 hy0 hx1 hy1
      obtain ⟨z0, z1⟩ := x
      simp only at hx0 hx1 hy0 hy1
      have hne := fun W => neqSlotRun z0 z1 W
      have hgd := guardSlot
      clear hc1 hc2 ha hb hn
      go_wp2_with fail
      go_quiet (fail)
      go_wp2
      go_roundw
      case rel => exact ⟨k + 1, by omega, by go_num, belowThen hbw (Go.Joins.below_draws _ _ _)⟩
      case measure => simp [intOf]; omega
    · go_wp2
      go_ret
      exact ⟨rfl, hbw⟩
end Go.Proofs.Ytjcbffkdemadnaa
