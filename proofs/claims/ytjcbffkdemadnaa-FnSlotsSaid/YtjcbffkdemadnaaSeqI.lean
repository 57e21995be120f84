/- The program's walk through all sequences of Slots: what is kept, and the function that is called for each. -/
import Derived.Test.YtjcbffkdemadnaaSeqM
import Derived.Test.YtjcbffkdemadnaaSwS
import Derived.Test.YtjcbffkdemadnaaDelS
import Derived.Lib.Hide
import Derived.Deep.RegionHeld3
import Derived.Deep.Cut
namespace Go.Proofs.Ytjcbffkdemadnaa
open Go.RowKit

/-- A slice at ao reads as l, and lies in another block than bL and bB. -/
def RdX (bL bB : Nat) (w : World) (ao : Option Addr) (l : List (Int × Int)) : Prop :=
  l = [] ∨ ∃ b off, ao = some ⟨b, off, none⟩ ∧ b < w.heap.size ∧ b ≠ bL ∧ b ≠ bB ∧ ∀ j, j < l.length → w.cell? ⟨b, off + j * 2, none⟩ = some (.int .i64 (l.getD j (0, 0)).1) ∧ w.cell? ⟨b, off + j * 2 + 1, none⟩ = some (.int .i64 (l.getD j (0, 0)).2)
/-- Old blocks but bL and bB are as they were. -/
def KeptS (bL bB : Nat) (w w' : World) : Prop := w.heap.size ≤ w'.heap.size ∧ ∀ k, k < w.heap.size → k ≠ bL → k ≠ bB → w'.heap[k]? = w.heap[k]?
theorem KeptS_refl (bL bB : Nat) (w : World) : KeptS bL bB w w := ⟨Nat.le_refl _, fun _ _ _ _ => rfl⟩
theorem KeptS_trans {bL bB : Nat} {a b c : World} (h : KeptS bL bB a b) (h2 : KeptS bL bB b c) : KeptS bL bB a c :=
  ⟨Nat.le_trans h.1 h2.1, fun k hk h3 h4 => (h2.2 k (Nat.lt_of_lt_of_le hk h.1) h3 h4).trans (h.2 k hk h3 h4)⟩
theorem KeptS_below {bL bB : Nat} {a b : World} (h : Below a.heap.size a b) : KeptS bL bB a b := ⟨h.size, fun k hk _ _ => h.block k hk⟩
theorem KeptS_set {bL bB : Nat} {a b : World} (h : KeptS bL bB a b) (g : Nat) (hg : g = bL ∨ g = bB) (v : Value) : KeptS bL bB a (b.setCell ⟨g, 0, none⟩ v) := by
  refine ⟨by rw [heapSet]; exact h.1, fun k hk h3 h4 => ?_⟩
  rw [← h.2 k hk h3 h4]
  have hne : k ≠ g := by rcases hg with rfl | rfl <;> assumption
  exact Below.heap_setCell _ _ _ _ (by first | exact hne | exact Ne.symm hne)
theorem KeptS_cell {bL bB : Nat} {w w' : World} (h : KeptS bL bB w w') {b o : Nat} (hb : b < w.heap.size) (h1 : b ≠ bL) (h2 : b ≠ bB) : w'.cell? ⟨b, o, none⟩ = w.cell? ⟨b, o, none⟩ := World.cell?_of_block (h.2 b hb h1 h2)
theorem RdX_kept {bL bB : Nat} {w w' : World} {ao : Option Addr} {l : List (Int × Int)} (h : RdX bL bB w ao l) (hk : KeptS bL bB w w') : RdX bL bB w' ao l := by
  rcases h with h | ⟨b, off, rfl, hlt, h1, h2, hc⟩
  · exact .inl h
  · exact .inr ⟨b, off, rfl, Nat.lt_of_lt_of_le hlt hk.1, h1, h2, fun j hj => ⟨(KeptS_cell hk hlt h1 h2).trans (hc j hj).1, (KeptS_cell hk hlt h1 h2).trans (hc j hj).2⟩⟩
theorem RdX_rd {bL bB : Nat} {w : World} {ao : Option Addr} {l : List (Int × Int)} (h : RdX bL bB w ao l) : RdS w ao l := by
  rcases h with h | ⟨b, off, rfl, hlt, h1, h2, hc⟩
  · exact .inl h
  · exact .inr ⟨b, off, rfl, hlt, hc⟩
theorem RdX_owns {bL bB : Nat} {w : World} {B : Nat} {ao : Option Addr} {n cap : Nat} {l : List (Int × Int)} (h : ownsS w B (.slice ao n cap) l) (h1 : bL < B) (h2 : bB < B) : RdX bL bB w ao l := by
  obtain ⟨ao', cap', he, hL | ⟨g, rfl, hBg, hlt, _, hc, _⟩⟩ := ownsS_shape h
  · exact .inl hL
  · simp only [Value.slice.injEq] at he
    obtain ⟨rfl, _, _⟩ := he
    exact .inr ⟨g, 0, rfl, hlt, by omega, by omega, fun j hj => by simpa using hc j hj⟩
/-- The slice is nil, or it is owned, and lies in another block than bL and bB. -/
def OwX (B0 bL bB : Nat) (w : World) (ao : Option Addr) (n cap : Nat) (l : List (Int × Int)) : Prop :=
  (l = [] ∧ ao = none ∧ n = 0 ∧ cap = 0) ∨ (l ≠ [] ∧ RdX bL bB w ao l ∧ ownsS w B0 (.slice ao n cap) l)
theorem OwX_rd {B0 bL bB : Nat} {w : World} {ao : Option Addr} {n cap : Nat} {l : List (Int × Int)} (h : OwX B0 bL bB w ao n cap l) : RdX bL bB w ao l := by
  rcases h with ⟨h, _⟩ | ⟨_, h, _⟩
  · exact .inl h
  · exact h
theorem OwX_owns {B0 bL bB : Nat} {w : World} {ao : Option Addr} {n cap : Nat} {l : List (Int × Int)} (h : OwX B0 bL bB w ao n cap l) : ownsS w B0 (.slice ao n cap) l := by
  rcases h with ⟨rfl, rfl, rfl, rfl⟩ | ⟨_, _, h⟩
  · exact ownsS_nil _ _
  · exact h
theorem OwX_kept {B0 bL bB : Nat} {w w' : World} {ao : Option Addr} {n cap : Nat} {l : List (Int × Int)} (h : OwX B0 bL bB w ao n cap l) (hk : KeptS bL bB w w') : OwX B0 bL bB w' ao n cap l := by
  rcases h with h | ⟨hne, hx, ho⟩
  · exact .inl h
  · refine .inr ⟨hne, RdX_kept hx hk, ?_⟩
    rcases hx with h | ⟨b, off, rfl, hlt, h1, h2, _⟩
    · exact absurd h hne
    · rcases ho with h | h
      · refine .inl ⟨h.1, ?_⟩
        rcases h.2 with h3 | ⟨g, cap', cur, hv1, hBg, hg, r⟩
        · exact .inl h3
        · cases hv1
          exact .inr ⟨b, _, cur, rfl, hBg, by rw [hk.2 b hlt h1 h2]; exact hg, r⟩
      · exact .inr h
/-- The two cells hold the state st. -/
def InvS (B0 bL bB : Nat) (st : Option (List (Int × Int))) (W : World) : Prop :=
  W.cell? ⟨bL, 0, none⟩ = some (.int .i64 (leastO st)) ∧ W.frozen? ⟨bL, 0, none⟩ = false ∧ W.frozen? ⟨bB, 0, none⟩ = false ∧ bL ≠ bB ∧ B0 ≤ bL ∧ B0 ≤ bB ∧ bL < W.heap.size ∧ bB < W.heap.size ∧ B0 ≤ W.heap.size ∧
  ∃ bo cb, W.cell? ⟨bB, 0, none⟩ = some (.slice bo (bestO st).length cb) ∧ OwX B0 bL bB W bo (bestO st).length cb (bestO st)
theorem InvS_below {B0 bL bB : Nat} {st : Option (List (Int × Int))} {W W' : World} (h : InvS B0 bL bB st W) (hb : Below W.heap.size W W') : InvS B0 bL bB st W' := by
  obtain ⟨h1, h2, h3, h4, h5, h6, h7, h8, h9, bo, cb, h10, h11⟩ := h
  have hs := hb.size
  exact ⟨(hb.cell (p := ⟨bL, 0, none⟩) h7).trans h1, (hb.frozen (p := ⟨bL, 0, none⟩) h7).trans h2, (hb.frozen (p := ⟨bB, 0, none⟩) h8).trans h3, h4, h5, h6, by omega, by omega, by omega, bo, cb, (hb.cell (p := ⟨bB, 0, none⟩) h8).trans h10, OwX_kept h11 (KeptS_below hb)⟩
/-- A sequence becomes the best one. -/
theorem InvS_set {B0 bL bB : Nat} {st : Option (List (Int × Int))} {W : World} (h : InvS B0 bL bB st W) (ao : Option Addr) (cap : Nat) (l : List (Int × Int)) (hr : OwX B0 bL bB W ao l.length cap l) :
    InvS B0 bL bB (some l) ((W.setCell ⟨bB, 0, none⟩ (.slice ao l.length cap)).setCell ⟨bL, 0, none⟩ (.int .i64 (swF l))) ∧
    KeptS bL bB W ((W.setCell ⟨bB, 0, none⟩ (.slice ao l.length cap)).setCell ⟨bL, 0, none⟩ (.int .i64 (swF l))) ∧ Below B0 W ((W.setCell ⟨bB, 0, none⟩ (.slice ao l.length cap)).setCell ⟨bL, 0, none⟩ (.int .i64 (swF l))) := by
  obtain ⟨h1, h2, h3, h4, h5, h6, h7, h8, h9, bo, cb, h10, h11⟩ := h
  have hk : KeptS bL bB W ((W.setCell ⟨bB, 0, none⟩ (.slice ao l.length cap)).setCell ⟨bL, 0, none⟩ (.int .i64 (swF l))) := KeptS_set (KeptS_set (KeptS_refl _ _ _) bB (.inr rfl) _) bL (.inl rfl) _
  have c1 : (W.setCell ⟨bB, 0, none⟩ (.slice ao l.length cap)).cell? ⟨bL, 0, none⟩ = some (.int .i64 (leastO st)) := by
    rw [World.cell?_setCell_other _ _ _ _ (by simp [h4])]; exact h1
  refine ⟨⟨?_, ?_, ?_, h4, h5, h6, by simp [heapSet]; omega, by simp [heapSet]; omega, by simp [heapSet]; omega, ao, cap, ?_, OwX_kept hr hk⟩, hk, ((Below.refl B0 W).setCell (by exact h6) _).setCell (by exact h5) _⟩
  · exact World.cell?_setCell_same _ _ _ c1
  · simp [h2]
  · simp [h3]
  · rw [World.cell?_setCell_other _ _ _ _ (by simp [Ne.symm h4])]
    exact World.cell?_setCell_same _ _ _ h10
set_option maxHeartbeats 800000 in
theorem doFn_any (B0 bL bB : Nat) (st : Option (List (Int × Int))) (ao : Option Addr) (n cap : Nat) (l : List (Int × Int)) (w : World) (hi : InvS B0 bL bB st w) (hr : OwX B0 bL bB w ao n cap l) (hn : l.length = n) (hm : n ≤ 1000000) (hs : smallS l) :
    Calls Try.prog 38 #[.slice ao n cap, .pointer (some ⟨bL, 0, none⟩), .pointer (some ⟨bB, 0, none⟩)] w fun e w' => e = .returned (.tuple #[]) ∧ InvS B0 bL bB (updS st l) w' ∧ KeptS bL bB w w' ∧ Below B0 w w' := by
  subst hn
  have HSW := Lib.hid (fun W h => switches_any ao l.length cap l W h rfl hm hs)
  have hset := fun W h h2 => InvS_set (B0 := B0) (bL := bL) (bB := bB) (st := st) (W := W) h ao cap l h2
  have hcs : ∀ b, st = some b → updS st l = if swF l < swF b then some l else some b := by rintro b rfl; rfl
  have hcn : st = none → updS st l = some l := by rintro rfl; rfl
  obtain ⟨s, hsl⟩ : ∃ s, swF l = s := ⟨_, rfl⟩
  rw [hsl] at HSW hcs hset
  have hdo : ∀ w1, Below w.heap.size w w1 → InvS B0 bL bB st w1 := fun w1 hb => InvS_below hi hb
  have hB0 := hi.2.2.2.2.2.2.2.2.1
  have key : (updS st l = some l ∧ (leastO st < 0 ∨ (s : Int) < leastO st)) ∨ (updS st l = st ∧ 0 ≤ leastO st ∧ leastO st ≤ (s : Int)) := by
    cases st with
    | none => exact .inl ⟨rfl, .inl (by decide)⟩
    | some b =>
      have h := hcs b rfl
      by_cases h2 : s < swF b
      · rw [if_pos h2] at h
        exact .inl ⟨h, .inr (by show (s : Int) < (swF b : Int); omega)⟩
      · rw [if_neg h2] at h
        exact .inr ⟨h, by show (0 : Int) ≤ (swF b : Int); omega, by show (swF b : Int) ≤ (s : Int); omega⟩
  rcases key with ⟨hu, hlt⟩ | ⟨hu, h0, hge⟩
  · rw [hu]
    by_cases hneg : leastO st < 0
    all_goals
      (first
        | have hd : decide (leastO st < 0) = true := decide_eq_true hneg
        | have hd : decide (leastO st < 0) = false := decide_eq_false hneg)
      have hd2 : ¬ leastO st < 0 → decide ((s : Int) < leastO st) = true := fun h => decide_eq_true (by omega)
      (first
        | have hd3 := hd2 hneg
        | have hd3 := trivial)
      obtain ⟨q, hq⟩ : ∃ q, leastO st = q := ⟨_, rfl⟩
      rw [hq] at hd
      (try rw [hq] at hd3)
      have HQ := Lib.hid hq
      have HDO := Lib.hid hdo
      have HSET := Lib.hid hset
      have HR := Lib.hid hr
      clear hq hdo hset hr hd2 hlt hcs hcn hu hi hneg
      go_enter Try.func38, Try.ntmps38
      go_wp2_with (go_at_call 39; refine (HSW.out _ (RdX_rd (OwX_rd HR.out))).mono ?_; rintro e w1 ⟨rfl, hb1⟩; have hi1 := HDO.out w1 hb1; have hr1 := OwX_kept HR.out (KeptS_below hb1); obtain ⟨g1, g2, g3⟩ := HSET.out w1 hi1 hr1; obtain ⟨c1, c2, c3, c4, c5, c6, c7, c8, c9, bo, cb, c10, c11⟩ := hi1; rw [HQ.out] at c1)
      go_end0
      exact ⟨rfl, g1, KeptS_trans (KeptS_below hb1) g2, (hb1.mono hB0).trans g3⟩
  · rw [hu]
    have hd : decide (leastO st < 0) = false := decide_eq_false (by omega)
    have hd3 : decide ((s : Int) < leastO st) = false := decide_eq_false (by omega)
    obtain ⟨q, hq⟩ : ∃ q, leastO st = q := ⟨_, rfl⟩
    rw [hq] at hd hd3
    have HQ := Lib.hid hq
    have HDO := Lib.hid hdo
    have HR := Lib.hid hr
    clear hq hdo hset hr h0 hge hcs hcn hu hi
    go_enter Try.func38, Try.ntmps38
    go_wp2_with (go_at_call 39; refine (HSW.out _ (RdX_rd (OwX_rd HR.out))).mono ?_; rintro e w1 ⟨rfl, hb1⟩; have hi1 := HDO.out w1 hb1; have hi2 := Lib.hid hi1; obtain ⟨c1, c2, c3, c4, c5, c6, c7, c8, c9, bo, cb, c10, c11⟩ := hi1; rw [HQ.out] at c1)
    go_end0
    exact ⟨rfl, hi2.out, KeptS_below hb1, hb1.mono hB0⟩
end Go.Proofs.Ytjcbffkdemadnaa
