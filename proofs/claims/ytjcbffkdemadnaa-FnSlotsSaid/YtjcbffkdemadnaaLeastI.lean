/- The contract of the program's LeastSwitches. -/
import Derived.Test.YtjcbffkdemadnaaSeqF
import Derived.Test.YtjcbffkdemadnaaSortS
import Derived.Test.YtjcbffkdemadnaaSlotP
import Derived.Test.YtjcbffkdemadnaaLsB
import Derived.Lib.Hide
namespace Go.Proofs.Ytjcbffkdemadnaa
open Go.RowKit

theorem SortFuncV_any (B : Nat) (ao : Option Addr) (n cap : Nat) (l : List (Int × Int)) (w : World) (ho : ownsS w B (.slice ao n cap) l) (hn : l.length = n) (hm : n ≤ 1000000) :
    Calls Try.prog 33 #[.slice ao n cap, .func (.func 34) #[] #[]] w fun e w' => e = .returned (.tuple #[]) ∧ RdS w' ao (sortS l) ∧ Below B w w' := by
  by_cases h0 : l.length = 0
  · have hl := List.eq_nil_of_length_eq_zero h0
    subst hl
    have hn0 : n = 0 := by simpa using hn.symm
    subst hn0
    refine (AnyF.slices_SortFunc_none { Try.sortSl with } ao cap _ w).mono ?_
    rintro e w' ⟨rfl, rfl⟩
    exact ⟨rfl, .inl (by simp [sortS]), Below.refl _ _⟩
  · obtain ⟨ao', cap', he, hL | ⟨g, rfl, _⟩⟩ := ownsS_shape ho
    · rw [hL] at h0; simp at h0
    · simp only [Value.slice.injEq] at he
      obtain ⟨rfl, -, -⟩ := he
      exact SortFuncS_any B g n cap l w ho hn hm
theorem RdX_of {bL bB : Nat} {w : World} {ao : Option Addr} {l : List (Int × Int)} (h : RdS w ao l) (h1 : w.heap.size ≤ bL) (h2 : w.heap.size ≤ bB) : RdX bL bB w ao l := by
  rcases h with h | ⟨b, off, rfl, hlt, hc⟩
  · exact .inl h
  · exact .inr ⟨b, off, rfl, hlt, by omega, by omega, hc⟩
theorem InvS_new (B0 : Nat) (w : World) (T1 T2 : TypeId) (h : B0 ≤ w.heap.size) : InvS B0 (w.heap.size + 1) w.heap.size none ((w.alloc (.cells #[.slice none 0 0] T1)).alloc (.cells #[.int .i64 (-1)] T2)) := by
  refine ⟨?_, ?_, ?_, by omega, by omega, by omega, by simp, by simp; omega, by simp; omega, none, 0, ?_, .inl ⟨rfl, rfl, rfl, rfl⟩⟩
  · rw [World.cell?_alloc_at _ _ _ _ (by simp)]; rfl
  · exact World.frozen?_alloc_at _ _ _ _ (by simp)
  · rw [frozenAlloc, if_pos (by simp)]
    exact World.frozen?_alloc_at _ _ _ _ rfl
  · rw [World.cell?_alloc_past _ _ _ (by simp), World.cell?_alloc_at _ _ _ _ rfl]; rfl
set_option maxHeartbeats 1600000 in
theorem LeastSwitchesI_any (k : Int) (ao : Option Addr) (n cap : Nat) (l : List (Int × Int)) (w : World) (hr : RdS w ao l) (hn : l.length = n) (hm : n ≤ 1048576) :
    Calls Try.prog 8 #[.int .i64 k, .slice ao n cap] w fun e w' => ∃ bo cb, e = .returned (.tuple #[.slice bo (lsL k l).length cb, .int .i64 (lsN k l), .bool (lsB k l)]) ∧ ownsS w' w.heap.size (.slice bo (lsL k l).length cb) (lsL k l) ∧ Below w.heap.size w w' := by
  unfold lsL lsN lsB
  have hsm := goodS_small (k := k) (l := l)
  have HG := Lib.hid (fun W h => isDriven_any k ao n cap l W h hn (by unfold maxLen; omega))
  generalize goodS k l = b at *
  have hd6 : decide ((6 : Int) < (n : Int)) = !decide (l.length ≤ 6) := by rw [hn, Bool.eq_iff_iff]; simp; omega
  generalize hd : decide (l.length ≤ 6) = d at *
  rcases b with _ | _
  · go_enter Try.func8, Try.ntmps8
    go_wp2_with (go_at_call 31; refine (HG.out _ hr).mono ?_; rintro e w1 ⟨rfl, hb1⟩)
    go_ret3
    exact ⟨none, 0, rfl, ownsS_nil _ _, hb1⟩
  rcases d with _ | _
  · simp only [Bool.not_false] at hd6
    go_enter Try.func8, Try.ntmps8
    go_wp2_with (go_at_call 31; refine (HG.out _ hr).mono ?_; rintro e w1 ⟨rfl, hb1⟩)
    go_ret3
    exact ⟨none, 0, rfl, ownsS_nil _ _, hb1⟩
  simp only [Bool.not_true] at hd6
  rw [decide_eq_true_eq] at hd
  have hs := hsm rfl
  simp only [Bool.and_self, if_true]
  have hs2 : smallS (sortS l) := fun x hx => hs x ((sortS_perm l).subset hx)
  have hmf : ∀ (fn : Fn) (first cap : Array Value) (w : World), (Instr.makeFunc fn first cap).run Try.prog w = .ok (.func fn first cap) w := fun _ _ _ _ => rfl
  have hls := sortS_length l
  have HSQ := Lib.hid (fun B0 bL bB ro cr W hi hr => sequences_any B0 bL bB none ro n cr (sortS l) W (hls.trans hn) (by omega) hs2 hi hr)
  have hlo : lsO l = stF none [] (sortS l) := rfl
  rw [← hlo] at HSQ
  generalize lsO l = O at *
  have HSO := Lib.hid (fun (B : Nat) (ao : Option Addr) (cap : Nat) (W : World) ho => SortFuncV_any B ao n cap l W ho hn (by omega))
  clear hs hs2 hsm hlo
  have hA1 := @cellAlloc; have hA2 := @frozenAlloc; have hA3 := @setCellAlloc; go_enter Try.func8, Try.ntmps8
  go_wp2_with (first
    | (go_at_call 31; refine (HG.out _ hr).mono ?_; rintro e w1 ⟨rfl, hb1⟩)
    | (go_at_call 32; refine (CloneS_any ao n cap l _ (RdS_below hr hb1) hn (by omega)).mono ?_; rintro e w2 ⟨v, rfl, ho2, hb2, hv2⟩; obtain ⟨ao2, cap2, rfl, hsh⟩ := ownsS_shape ho2; clear hsh; rw [hn] at ho2 ⊢)
    | (go_at_call 33; refine (HSO.out _ ao2 cap2 _ ho2).mono ?_; rintro e w3 ⟨rfl, hr3, hb3⟩; have hbz := (belowThen hb1 hb2).trans (hb3.mono hb1.size))
    | (go_at_call 37; refine (HSQ.out w.heap.size (w3.heap.size + 1) w3.heap.size ao2 cap2 _ (InvS_new _ _ _ _ hbz.size) (RdX_kept (RdX_of hr3 (by omega) (Nat.le_refl _)) (KeptS_below (Go.Joins.below_alloc2 _ _ _)))).mono ?_; rintro e w5 ⟨rfl, hi5, hk5, hb5⟩; obtain ⟨c1, c2, c3, c4, c5, c6, c7, c8, c9, bo, cb, c10, c11⟩ := hi5))
  have hown := OwX_owns c11
  have hbf : Below w.heap.size w w5 := (hbz.trans ((Go.Joins.below_alloc2 w3 _ _).mono hbz.size)).trans hb5
  clear hb1 hb2 hb3 hbz hb5 hk5 hr3 ho2
  go_quiet (fail)
  go_wp2
  go_ret3
  exact ⟨bo, cb, rfl, ownsS_below hown ((Below.refl _ _).trans (Go.Joins.below_draws _ _ _)) (Nat.le_refl _), hbf.trans (Go.Joins.below_draws _ _ _)⟩
end Go.Proofs.Ytjcbffkdemadnaa
