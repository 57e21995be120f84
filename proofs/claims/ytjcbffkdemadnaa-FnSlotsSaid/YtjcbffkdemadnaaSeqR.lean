/- The reference's list of all sequences of Slots. -/
import Derived.Test.YtjcbffkdemadnaaOwnSS
import Derived.Test.YtjcbffkdemadnaaSeqM
import Derived.Test.YtjcbffkdemadnaaLeastB
import Derived.Lib.Hide
import Derived.Deep.RegionHeld3
import Derived.Deep.RegionLaw
namespace Go.Proofs.Ytjcbffkdemadnaa
open Go.RowKit

/-- Old blocks but the one of v are as they were. -/
def KeptV (v : Value) (w w' : World) : Prop := w.heap.size ≤ w'.heap.size ∧ ∀ k, k < w.heap.size → effB v ≠ some k → w'.heap[k]? = w.heap[k]?
theorem KeptV_below {v : Value} {a b : World} (h : Below a.heap.size a b) : KeptV v a b := ⟨h.size, fun k hk _ => h.block k hk⟩
theorem KeptV_trans {v : Value} {a b c : World} (h : KeptV v a b) (h2 : KeptV v b c) : KeptV v a c :=
  ⟨Nat.le_trans h.1 h2.1, fun k hk h3 => (h2.2 k (Nat.lt_of_lt_of_le hk h.1) h3).trans (h.2 k hk h3)⟩
theorem KeptV_cell {v : Value} {w w' : World} (h : KeptV v w w') {b o : Nat} {x : Value} (hc : w.cell? ⟨b, o, none⟩ = some x) (hb : b < w.heap.size) (h1 : effB v ≠ some b) : w'.cell? ⟨b, o, none⟩ = some x := (World.cell?_of_block (h.2 b hb h1)).trans hc
theorem ownsS_cap {w : World} {B n cap : Nat} {ao : Option Addr} {l : List (Int × Int)} (h : ownsS w B (.slice ao n cap) l) (hp : 0 < n) : n ≤ cap ∧ cap ≤ 9223372036854775807 := by
  rcases h with h | ⟨h1, _, a, h2⟩
  · rcases h.2 with ⟨h2, _⟩ | ⟨g, cap', cur, hv, _, _, h3, h4, _⟩
    · cases h2; omega
    · simp only [Value.slice.injEq] at hv
      obtain ⟨_, _, rfl⟩ := hv
      unfold maxLen at h4
      obtain ⟨ao', cap'', he, _⟩ := ownsS_shape (w := w) (B := B) (.inl h)
      simp only [Value.slice.injEq] at he
      exact ⟨by omega, by omega⟩
  · simp only [Value.slice.injEq] at h2
    omega
/-- The reference's l8Sequences lists the sequences of m Slots. -/
def SeqOk (m : Nat) : Prop := ∀ (fo : Option Addr) (n cap : Nat) (l : List (Int × Int)) (w : World), l.length = n → n = m → n ≤ 6 → (0 < n → ∃ b o, fo = some ⟨b, o, none⟩ ∧ n ≤ cap ∧ cap ≤ 9223372036854775807) → RdS w fo l →
  Calls Try.prog 28 #[.slice fo n cap] w fun e w' => ∃ b off c, e = .returned (.slice (some ⟨b, off, none⟩) (seqS l).length c) ∧ RdSS w' b off (seqS l) ∧ w.heap.size ≤ b ∧ Below w.heap.size w w'
theorem seqOk_zero : SeqOk 0 := by
  intro fo n cap l w hl hn _ _ _
  subst hn
  have h0 := List.eq_nil_of_length_eq_zero hl
  subst h0
  have hA1 := @cellAlloc; have hA2 := @frozenAlloc; have hA3 := @setCellAlloc; go_enter Try.func28, Try.ntmps28
  go_wp2
  go_ret
  refine ⟨_, _, _, rfl, ⟨by simp, fun j hj => ?_⟩, ?_, by (repeat (first | assumption | exact Below.refl _ _ | refine belowThen ?_ (Go.Joins.below_alloc1 _ _) | apply Below.drew | refine belowThen ?_ (by assumption) | refine belowThen ?_ (Go.Joins.below_draws _ _ _) | refine Below.setCell ?_ (by first | exact Nat.le_refl _ | (simp; done) | (simp; omega)) _))⟩
  · rw [seqS_nil] at hj
    have hj0 : j = 0 := by simpa using hj
    subst hj0
    refine ⟨⟨w.heap.size, 0, none⟩, 0, ?_, .inl rfl⟩
    rw [World.cell?_alloc_at _ _ _ _ (by simp)]
    rfl
  · simp
theorem fact_pos (n : Nat) : 0 < fact n := by
  induction n with
  | zero => decide
  | succ n ih => exact Nat.mul_pos (Nat.succ_pos n) ih
theorem seqP_count (n : Nat) (l : List (Int × Int)) (hl : l.length = n + 1) : ∀ i, i ≤ l.length → (seqP l i).length = i * fact n := by
  intro i
  induction i with
  | zero => intro _; simp [seqP]
  | succ i ih2 =>
    intro hi
    rw [seqP_succ, List.length_append, ih2 (by omega), List.length_map, seqS_count n _ (by rw [List.length_eraseIdx, if_pos (by omega)]; omega)]
    rw [Nat.succ_mul]
theorem takeMap_succ (x : Int × Int) (R : List (List (Int × Int))) (j : Nat) (hj : j < R.length) : (R.take (j + 1)).map (x :: ·) = (R.take j).map (x :: ·) ++ [x :: R.getD j []] := by
  rw [List.take_add_one, List.getElem?_eq_getElem hj, List.map_append]
  simp [hj]
set_option maxHeartbeats 1600000 in
theorem seqOk_succ (m : Nat) (ih : SeqOk m) : SeqOk (m + 1) := by
  intro fo n cap l w hl hn h6 hfo hr
  obtain ⟨b, o, rfl, hnc, hcm⟩ := hfo (by omega)
  have hfin := seqP_all l (by omega)
  have hcnt := seqS_count n l hl
  have hf720 : ∀ k, k ≤ 6 → fact k ≤ 720 := by
    have : ∀ x : Fin 7, fact x.val ≤ 720 := by decide
    exact fun k hk => this ⟨k, by omega⟩
  have HL := Lib.hid (And.intro hl hn)
  have HFI := Lib.hid (And.intro hfin (And.intro hcnt hf720))
  have HIH := Lib.hid ih
  have hne : ((n : Int) == 0) = false := by rw [beq_eq_false_iff_ne]; omega
  have hnp : 0 < n := by omega
  have hbw0 : b < w.heap.size := by
    rcases hr with h | ⟨b', o', he, hlt, _⟩
    · rw [h] at hl; simp at hl; omega
    · cases he; exact hlt
  clear hl hn hfin hcnt hf720 hfo ih
  go_enter Try.func28, Try.ntmps28
  go_wp2
  go_loopw [3, 4] (fun v i wr => ∃ k : Nat, k ≤ n ∧ i = .int .i64 k ∧ ownsSS wr w.heap.size v (seqP l k) ∧ Below w.heap.size w wr) (fun _ i _ => n - (intOf i).toNat)
  case atStart => exact ⟨0, by omega, rfl, ownsSS_zero _ _ _, by (repeat (first | assumption | exact Below.refl _ _ | refine belowThen ?_ (Go.Joins.below_alloc1 _ _) | apply Below.drew | refine belowThen ?_ (by assumption) | refine belowThen ?_ (Go.Joins.below_draws _ _ _) | refine Below.setCell ?_ (by first | exact Nat.le_refl _ | (simp; done) | (simp; omega)) _))⟩
  case round =>
    obtain ⟨k, hk, rfl, hown, hbw⟩ := hrel
    by_cases hlt : k < n
    · have hd : decide ((k : Int) < (n : Int)) = true := by simp; omega
      have hrr := RdS_below hr hbw
      have HW := Lib.hid (fun W h => l8Without_any b o n cap k l W h HL.out.1 hlt hnc (by omega) hcm)
      have hlen : (l.eraseIdx k).length = n - 1 := by have := HL.out.1; rw [List.length_eraseIdx, if_pos (by omega)]; omega
      have hsucc := seqP_succ l k
      have hPl : (seqP l k).length ≤ 720 := by
        rw [seqP_count (n - 1) l (by have := HL.out; omega) k (by have := HL.out; omega)]
        refine Nat.le_trans (Nat.mul_le_mul_right _ (show k ≤ n - 1 + 1 by omega)) ?_
        exact HFI.out.2.2 (n - 1 + 1) (by omega)
      have hRl : (seqS (l.eraseIdx k)).length ≤ 720 := by
        rw [seqS_count (n - 1) _ hlen]; exact HFI.out.2.2 _ (by omega)
      have HSQ := Lib.hid (fun (fo : Option Addr) (c : Nat) (W : World) h1 h2 => HIH.out fo (n - 1) c (l.eraseIdx k) W hlen (by have := HL.out.2; omega) (by omega) h1 h2)
      have HRS : Hid (∀ s, s ∈ seqS (l.eraseIdx k) → s.length ≤ 6) := Lib.hid (fun s hs => by have := ((seqS_perm (n - 1) _ hlen s).1 hs).length_eq; omega)
      obtain ⟨R, hR⟩ : ∃ R, seqS (l.eraseIdx k) = R := ⟨_, rfl⟩
      rw [hR] at hsucc hRl HSQ HRS
      obtain ⟨⟨x0, x1⟩, hx⟩ : ∃ x, l.getD k (0, 0) = x := ⟨_, rfl⟩
      rw [hx] at hsucc
      have HSU := Lib.hid hsucc
      clear hsucc hR hlen
      go_wp2_with (first
        | (go_at_call 45; refine (HW.out _ hrr).mono ?_; rintro e w1 ⟨g1, o1, c1, rfl, ho1, hb1⟩)
        | (go_at_call 28; refine (HSQ.out _ c1 _ (fun hp => ⟨g1, o1, rfl, ownsS_cap ho1 hp⟩) (RdS_owns ho1)).mono ?_; rintro e w2 ⟨b2, o2, c2, rfl, hrd2, hb2g, hb2⟩))
      have hrw := ownsSS_below hown (belowThen hb1 hb2) (Nat.le_refl _)
      have hbw2 := hbw.trans ((belowThen hb1 hb2).mono hbw.size)
      have hne2 : effB u3 ≠ some b2 := fun he => by have := (ownsSS_typed hown _ he).2.2; have := hb1.size; omega
      have hRs : ∀ s, s ∈ R → s.length ≤ 6 := HRS.out
      have HRSS := Lib.hid hRs
      obtain ⟨wo, hwo⟩ : ∃ wo : World, wo = w2 := ⟨_, rfl⟩
      subst hwo
      have hrd0 := Lib.hid hrd2
      clear hrr hRs ho1 hb1 hb2 hrd2 hown hbw hb2g
      go_loopw [3, 6] (fun v i wq => ∃ j : Nat, j ≤ R.length ∧ i = .int .i64 j ∧ ownsSS wq w.heap.size v (seqP l k ++ (R.take j).map ((x0, x1) :: ·)) ∧ RdSS wq b2 o2 R ∧ effB v ≠ some b2 ∧ Below w.heap.size w wq) (fun _ i _ => R.length - (intOf i).toNat)
      case atStart => exact ⟨0, by omega, rfl, by simpa using hrw, hrd0.out, hne2, hbw2⟩
      case round =>
        obtain ⟨j, hj, rfl, hownq, hrdq, hneq, hbq⟩ := hrel
        by_cases hlj : j < R.length
        · have hdj : decide ((j : Int) < (R.length : Int)) = true := by simp; omega
          rcases RdS_below hr hbq with h | ⟨b', o', he, hblt, hc⟩
          · have := HL.out.1; rw [h] at this; simp at this; omega
          cases he
          obtain ⟨hc0, hc1⟩ := hc k (by rw [HL.out.1]; exact hlt)
          rw [hx] at hc0 hc1
          simp only at hc0 hc1
          obtain ⟨A, cp, hcr, hTr⟩ := hrdq.2 j hlj
          have hsu := takeMap_succ (x0, x1) R j hlj
          have hs6 := HRSS.out (R.getD j []) (by rw [List.getD_eq_getElem?_getD, List.getElem?_eq_getElem hlj]; exact List.getElem_mem _)
          obtain ⟨s, hs⟩ : ∃ s, R.getD j [] = s := ⟨_, rfl⟩
          rw [hs] at hcr hTr hsu hs6
          have hPQ : (seqP l k ++ (R.take j).map ((x0, x1) :: ·)).length ≤ 10000 := by simp; omega
          have hsu2 : seqP l k ++ (R.take (j + 1)).map ((x0, x1) :: ·) = (seqP l k ++ (R.take j).map ((x0, x1) :: ·)) ++ [(x0, x1) :: s] := by rw [hsu, List.append_assoc]
          have HSJ := Lib.hid hsu2
          have HRD := Lib.hid hrdq
          have hnb : effB u3 ≠ some b := fun he => by have := (ownsSS_typed hownq _ he).2.1; omega
          have hb2l := hrdq.1
          generalize seqP l k ++ (R.take j).map ((x0, x1) :: ·) = PP at hownq hPQ HSJ
          have HS := Lib.hid (fun W (h : KeptV u3 wr W) => And.intro (KeptV_cell h hc0 hblt hnb) (And.intro (KeptV_cell h hc1 hblt hnb) (KeptV_cell h hcr hb2l hneq)))
          have hs0 := HS.out wr.drew (KeptV_below (Below.refl _ _).drew)
          have hbz : Below wr.heap.size wr wr.drew := (Below.refl _ _).drew
          have HNE := Lib.hid hneq
          have HTY := Lib.hid (fun k h => (ownsSS_typed hownq k h).1)
          have hws := hbq.size
          clear hc hsu hsu2 hrdq hs hx hnb hneq
          go_wp2_with fail
          go_region_held3 (fun W => W.cell? ⟨b, o + k * 2, none⟩ = some (.int .i64 x0) ∧ W.cell? ⟨b, o + k * 2 + 1, none⟩ = some (.int .i64 x1) ∧ W.cell? ⟨b2, o2 + j, none⟩ = some (.slice (some A) s.length cp))
            (first | (with_reducible exact hs0) | (with_reducible exact HS.out _ hkz) | (with_reducible exact HS.out _ (KeptV_below hbz)) | (with_reducible exact HS.out _ (KeptV_below (belowThen hbz (Go.Joins.below_alloc1 _ _)))) | (with_reducible exact HS.out _ (KeptV_below (Go.Joins.below_alloc1 wr _).drew)))
            (first
              | (refine stepAppendSS (by rfl) _ _ (by rfl) w.heap.size u3 PP (by rfl) (ownsSS_below hownq (belowThen hbz (Go.Joins.below_alloc1 _ _)) (Nat.le_refl _)) ⟨w3.heap.size, 0, none⟩ (.slice (some A3) (s.length + 1) c3) ((x0, x1) :: s) (by rfl) ⟨A3, c3, rfl, RdT_below hT3 (Go.Joins.below_alloc1 _ _)⟩ (by rw [Addr.add_lit]; exact World.cell?_alloc_at _ _ _ _ rfl) (by omega) (Nat.le_trans hws (belowThen hbz (Go.Joins.below_alloc1 _ _)).size) ?_; intro ao4 c4 w4 ho4 hb4 hk4 he4; have hkz := KeptV_trans (KeptV_below (v := u3) (belowThen hbz (Go.Joins.below_alloc1 _ _))) ⟨hb4.size, hk4⟩)
              | (refine stepAppendLit (by rfl) _ _ (by rfl) _ (x0, x1) (by rfl) (RdT_new _ _ _ _ (by decide)) A s.length cp s (by rfl) rfl (RdS_below (RdT_rd hTr) (belowThen hbz (Go.Joins.below_alloc1 _ _))) (by omega) ?_; intro A3 c3 w3 hT3 hb3; have hbz := belowThen (belowThen hbz (Go.Joins.below_alloc1 _ _)) hb3))
          have hrdn := RdSS_keep HRD.out hkz.1 (hkz.2 b2 hb2l HNE.out) (fun k hk hno => hkz.2 k hk (fun he => HTY.out k he hno))
          have hnen : effB (Value.slice ao4 (PP.length + 1) c4) ≠ some b2 := fun he => by
            rcases (he4 b2 he).2 with h | h
            · exact HNE.out h
            · have := (belowThen hbz (Go.Joins.below_alloc1 w3 (.cells #[.slice (some A3) (s.length + 1) c3] 24))).size
              omega
          have hbf := hbq.trans (((belowThen hbz (Go.Joins.below_alloc1 w3 (.cells #[.slice (some A3) (s.length + 1) c3] 24))).mono hws).trans hb4)
          go_wp2
          go_roundw
          case rel => exact ⟨j + 1, by omega, by go_num, by rw [HSJ.out]; exact ho4, hrdn, hnen, hbf⟩
          case measure => simp [intOf]; omega
        · have hjn : j = R.length := by omega
          subst hjn
          have hdj : decide ((R.length : Int) < (R.length : Int)) = false := by simp
          rw [List.take_length] at hownq
          rw [← HSU.out] at hownq
          go_wp2
          go_roundw
          case rel => exact ⟨k + 1, by omega, by go_num, hownq, hbq⟩
          case measure => simp [intOf]; omega
    · have hkn : k = n := by omega
      subst hkn
      have h := HFI.out.1
      rw [HL.out.1] at h
      rw [h] at hown
      obtain ⟨g, c, rfl, hBg, hrd⟩ := RdSS_owns hown (by rw [HFI.out.2.1]; exact fact_pos _)
      go_wp2
      go_ret
      exact ⟨g, 0, c, rfl, hrd, hBg, hbw⟩
theorem seqOk_all (m : Nat) : SeqOk m := by
  induction m with
  | zero => exact seqOk_zero
  | succ m ih => exact seqOk_succ m ih
end Go.Proofs.Ytjcbffkdemadnaa
