/- The program's walk through all sequences of Slots: the function that calls itself. -/
import Derived.Test.YtjcbffkdemadnaaSeqI
import Derived.Test.YtjcbffkdemadnaaEqSl
import Derived.Lib.Hide
import Derived.Deep.RegionHeld3
import Derived.Deep.Cut
namespace Go.Proofs.Ytjcbffkdemadnaa
open Go.RowKit

/-- The cells of the two function values. -/
def CellsE (bL bB bD bE : Nat) (W : World) : Prop :=
  W.cell? ⟨bD, 0, none⟩ = some (.func (.func 38) #[] #[.pointer (some ⟨bL, 0, none⟩), .pointer (some ⟨bB, 0, none⟩)]) ∧
  W.cell? ⟨bE, 0, none⟩ = some (.func (.func 60) #[] #[.pointer (some ⟨bD, 0, none⟩), .pointer (some ⟨bE, 0, none⟩)]) ∧ bD < W.heap.size ∧ bE < W.heap.size ∧ bD ≠ bL ∧ bD ≠ bB ∧ bE ≠ bL ∧ bE ≠ bB
theorem CellsE_kept {bL bB bD bE : Nat} {W W' : World} (h : CellsE bL bB bD bE W) (hk : KeptS bL bB W W') : CellsE bL bB bD bE W' := by
  obtain ⟨h1, h2, h3, h4, h5, h6, h7, h8⟩ := h
  exact ⟨(KeptS_cell hk h3 h5 h6).trans h1, (KeptS_cell hk h4 h7 h8).trans h2, Nat.lt_of_lt_of_le h3 hk.1, Nat.lt_of_lt_of_le h4 hk.1, h5, h6, h7, h8⟩
theorem enters_do : ∀ (args : Array Value) (W : World), (callFunc 38 args).run Try.prog W = .ok (.enter 38 args) W := fun _ _ => by simp [go_sem, Try.func38]
theorem enters_ext : ∀ (args : Array Value) (W : World), (callFunc 60 args).run Try.prog W = .ok (.enter 60 args) W := fun _ _ => by simp [go_sem, Try.func60]
theorem small_sub {l m : List (Int × Int)} (h : smallS l) (hs : ∀ x ∈ m, x ∈ l) : smallS m := fun x hx => h x (hs x hx)
/-- What the walk carries from world to world. -/
theorem keepE {w0 W : World} {bE bX : Nat} {v : Value} {x y : Int} (h1 : w0.cell? ⟨bE, 0, none⟩ = some v) (h2 : w0.cell? ⟨bX, 0, none⟩ = some (.int .i64 x)) (h3 : w0.cell? ⟨bX, 1, none⟩ = some (.int .i64 y)) (hE : bE < w0.heap.size) (hX : bX < w0.heap.size) (hb : Below w0.heap.size w0 W) :
    W.cell? ⟨bE, 0, none⟩ = some v ∧ W.cell? ⟨bX, 0, none⟩ = some (.int .i64 x) ∧ W.cell? ⟨bX, 1, none⟩ = some (.int .i64 y) ∧ Below w0.heap.size w0 W :=
  ⟨(hb.cell (p := ⟨bE, 0, none⟩) hE).trans h1, (hb.cell (p := ⟨bX, 0, none⟩) hX).trans h2, (hb.cell (p := ⟨bX, 1, none⟩) hX).trans h3, hb⟩
theorem keepK {bL bB : Nat} {w0 W : World} {bE bX : Nat} {v : Value} {x y : Int} (h1 : w0.cell? ⟨bE, 0, none⟩ = some v) (h2 : w0.cell? ⟨bX, 0, none⟩ = some (.int .i64 x)) (h3 : w0.cell? ⟨bX, 1, none⟩ = some (.int .i64 y)) (hE : bE < w0.heap.size) (hX : bX < w0.heap.size) (e1 : bE ≠ bL) (e2 : bE ≠ bB) (x1 : bX ≠ bL) (x2 : bX ≠ bB) (hk : KeptS bL bB w0 W) :
    W.cell? ⟨bE, 0, none⟩ = some v ∧ W.cell? ⟨bX, 0, none⟩ = some (.int .i64 x) ∧ W.cell? ⟨bX, 1, none⟩ = some (.int .i64 y) ∧ KeptS bL bB w0 W :=
  ⟨(KeptS_cell hk hE e1 e2).trans h1, (KeptS_cell hk hX x1 x2).trans h2, (KeptS_cell hk hX x1 x2).trans h3, hk⟩
theorem RdS_belowLt {w w' : World} {b o : Nat} {x : Int × Int} (h : RdS w (some ⟨b, o, none⟩) [x]) (hb : Below w.heap.size w w') : RdS w' (some ⟨b, o, none⟩) [x] ∧ b < w.heap.size := by
  refine ⟨RdS_below h hb, ?_⟩
  rcases h with h | ⟨b', o', he, hl, _⟩
  · cases h
  · cases he; exact hl
theorem RdS_newD (W : World) (x y : Int) (T : TypeId) : RdS (W.alloc (.cells #[.int .i64 x, .int .i64 y] T)).drew (some ⟨W.heap.size, 0, none⟩) [(x, y)] := RdS_below (RdS_new W x y T) (Below.refl _ _).drew
theorem RdS_only {w w' : World} {b o g m : Nat} {l : List (Int × Int)} (h : RdS w (some ⟨b, o, none⟩) l) (ho : OnlyB m g w w') (hne : b ≠ g) : RdS w' (some ⟨b, o, none⟩) l := by
  rcases h with h | ⟨b', o', he, hl, hc⟩
  · exact .inl h
  · cases he
    exact .inr ⟨b, o, rfl, by rw [ho.1]; exact hl, fun j hj => ⟨(World.cell?_of_block (ho.2 b (.inr hne))).trans (hc j hj).1, (World.cell?_of_block (ho.2 b (.inr hne))).trans (hc j hj).2⟩⟩
theorem DeleteS_at (B g n cap i : Nat) (iz jz : Int) (hiz : iz = (i : Int)) (hjz : jz = ((i + 1 : Nat) : Int)) (l : List (Int × Int)) (w : World) (ho : ownsS w B (.slice (some ⟨g, 0, none⟩) n cap) l) (hn : l.length = n) (hi : i < n) (hm : cap ≤ 9223372036854775807) :
    Calls Try.prog 61 #[.slice (some ⟨g, 0, none⟩) n cap, .int .i64 iz, .int .i64 jz] w fun e w' => e = .returned (.slice (some ⟨g, 0, none⟩) (n - 1) cap) ∧ ownsS w' B (.slice (some ⟨g, 0, none⟩) (n - 1) cap) (l.eraseIdx i) ∧ OnlyB 1 g w w' ∧ Below B w w' := by
  subst hiz hjz
  exact DeleteS_any B g n cap i (i + 1) l w ho hn hi rfl hm
theorem sz3 {W0 Wb w3 : World} (h : Below W0.heap.size W0 Wb) (_ : Below Wb.heap.size Wb w3) : W0.heap.size ≤ Wb.heap.size := h.size
theorem baseDown {W0 Wb w3 : World} {v : Value} {l : List (Int × Int)} (h : ownsS w3 Wb.heap.size v l) (hc : Below W0.heap.size W0 Wb) : ownsS w3 W0.heap.size v l := ownsS_below h (Below.refl _ _) hc.size
def ExtOk (B0 bL bB bD bE m : Nat) : Prop := ∀ (st : Option (List (Int × Int))) (po : Option Addr) (np cp : Nat) (part : List (Int × Int)) (ro : Option Addr) (nr cr : Nat) (rest : List (Int × Int)) (w : World),
  rest.length = m → part.length = np → rest.length = nr → np + nr ≤ 6 → smallS part → smallS rest → InvS B0 bL bB st w → OwX B0 bL bB w po np cp part → RdX bL bB w ro rest → CellsE bL bB bD bE w →
  Calls Try.prog 60 #[.slice po np cp, .slice ro nr cr, .pointer (some ⟨bD, 0, none⟩), .pointer (some ⟨bE, 0, none⟩)] w fun e w' => e = .returned (.tuple #[]) ∧ InvS B0 bL bB (stF st part rest) w' ∧ KeptS bL bB w w' ∧ Below B0 w w'
set_option maxHeartbeats 800000 in
theorem ext_zero (B0 bL bB bD bE : Nat) : ExtOk B0 bL bB bD bE 0 := by
  intro st po np cp part ro nr cr rest w h0 hnp hnr h6 hsp hsr hi hp hr hc
  have hl := List.eq_nil_of_length_eq_zero h0
  subst hl
  have hnr0 : nr = 0 := by simpa using hnr.symm
  subst hnr0
  rw [stF_nil]
  have HD := Lib.hid (doFn_any B0 bL bB st po np cp part w hi hp hnp (by omega) hsp)
  have hK := enters_do
  obtain ⟨hc1, hc2, hc3, hc4, hc5⟩ := hc
  clear hr hi hp hnp hnr h0 hsp hsr
  go_enter Try.func60, Try.ntmps60
  go_wp2_with fail
  refine HD.out.mono ?_
  rintro e w1 ⟨rfl, h1, h2, h3⟩
  go_wp2
  refine wp_loop_rounds 1 ?_
  rw [rounds_succ]
  go_wp2
  go_end0
  exact ⟨rfl, h1, h2, h3⟩
set_option maxHeartbeats 4000000 in
set_option maxRecDepth 100000 in
theorem ext_succ (B0 bL bB bD bE m : Nat) (ih : ExtOk B0 bL bB bD bE m) : ExtOk B0 bL bB bD bE (m + 1) := by
  intro st po np cp part ro nr cr rest w h0 hnp hnr h6 hsp hsr hi hp hr hc
  subst hnp
  have hnp : part.length = part.length := rfl
  have hpos : 0 < rest.length := by omega
  have hfin := stP_all st part rest hpos
  have hne0 : ((nr : Int) == 0) = false := by rw [beq_eq_false_iff_ne]; omega
  have hK := enters_ext
  have hsl := fun k (hk : k < rest.length) => stP_succ st part rest k
  have HST := Lib.hid hfin
  have HN := Lib.hid (And.intro h0 (And.intro hnp hnr))
  have HSM := Lib.hid (And.intro hsp hsr)
  have hnr1 : 0 < nr := by omega
  have HC := Lib.hid hc
  have HI := Lib.hid hi
  have hB0 := hi.2.2.2.2.2.2.2.2.1
  clear hfin h0 hnp hnr hsp hsr hc hi hsl hpos
  go_enter Try.func60, Try.ntmps60
  go_wp2_with fail
  go_loopw [16] (fun i wr => ∃ k : Nat, k ≤ nr ∧ i = .int .i64 k ∧ InvS B0 bL bB (stP st part rest k) wr ∧ KeptS bL bB w wr ∧ Below B0 w wr) (fun i _ => nr - (intOf i).toNat)
  case atStart => exact ⟨0, by omega, rfl, HI.out, KeptS_refl _ _ _, Below.refl _ _⟩
  case round =>
    obtain ⟨k, hk, rfl, hiv, hkp, hbw⟩ := hrel
    by_cases hlt : k < nr
    · have hpr := OwX_rd (OwX_kept hp hkp)
      have hrr := RdX_kept hr hkp
      have hce := CellsE_kept HC.out hkp
      have hiB : B0 ≤ wr.heap.size := hiv.2.2.2.2.2.2.2.2.1
      have hsucc := stP_succ st part rest k
      have hdup := fun h => stP_dup st part rest (k - 1) h
      rcases hrr with h | ⟨b1, o1, rfl, hb1, hb2, hb3, hcells⟩
      · have := HN.out.2.2; rw [h] at this; simp at this; omega
      obtain ⟨hx, hy⟩ := hcells k (by rw [HN.out.2.2]; exact hlt)
      have hrs : RdS wr (some ⟨b1, o1, none⟩) rest := .inr ⟨b1, o1, rfl, hb1, hcells⟩
      by_cases hdd : 0 < k ∧ rest.getD k (0, 0) = rest.getD (k - 1) (0, 0)
      · -- the same Slot as before: left out
        obtain ⟨hk0, hdd⟩ := hdd
        obtain ⟨q, rfl⟩ : ∃ q, k = q + 1 := ⟨k - 1, by omega⟩
        rw [Nat.add_sub_cancel] at hdd hdup
        have hst : stP st part rest (q + 1 + 1) = stP st part rest (q + 1) := hdup (by rw [HN.out.2.2]; omega) hdd
        obtain ⟨hx', hy'⟩ := hcells q (by rw [HN.out.2.2]; omega)
        rw [← hdd] at hx' hy'
        obtain ⟨x, hxe⟩ : ∃ x, rest.getD (q + 1) (0, 0) = x := ⟨_, rfl⟩
        obtain ⟨x0, x1⟩ := x
        rw [hxe] at hx hy hx' hy'
        simp only at hx hy hx' hy'
        have heq := fun W => eqSlotRun x0 x1 x0 x1 W
        have hgd := guardSlot
        have hd0 : decide ((0 : Int) < ((q + 1 : Nat) : Int)) = true := decide_eq_true (by omega)
        have HSTT := Lib.hid hst
        have HIV := Lib.hid hiv
        have hA1 := @cellAlloc
        clear hcells hsucc hdup hst hxe hdd hiv hce hrs hpr
        go_wp2_with fail
        go_quiet (fail)
        go_wp2
        go_roundw
        case rel => exact ⟨q + 1 + 1, by omega, by go_num, by rw [HSTT.out]; exact InvS_below HIV.out (by (repeat (first | assumption | exact Below.refl _ _ | refine belowThen ?_ (Go.Joins.below_alloc1 _ _) | apply Below.drew | refine belowThen ?_ (by assumption) | refine belowThen ?_ (Go.Joins.below_draws _ _ _) | refine Below.setCell ?_ (by first | exact Nat.le_refl _ | (simp; done) | (simp; omega)) _))), KeptS_trans hkp (KeptS_below (by (repeat (first | assumption | exact Below.refl _ _ | refine belowThen ?_ (Go.Joins.below_alloc1 _ _) | apply Below.drew | refine belowThen ?_ (by assumption) | refine belowThen ?_ (Go.Joins.below_draws _ _ _) | refine Below.setCell ?_ (by first | exact Nat.le_refl _ | (simp; done) | (simp; omega)) _)))), hbw.trans ((show Below wr.heap.size wr _ by (repeat (first | assumption | exact Below.refl _ _ | refine belowThen ?_ (Go.Joins.below_alloc1 _ _) | apply Below.drew | refine belowThen ?_ (by assumption) | refine belowThen ?_ (Go.Joins.below_draws _ _ _) | refine Below.setCell ?_ (by first | exact Nat.le_refl _ | (simp; done) | (simp; omega)) _))).mono hiB)⟩
        case measure => simp [intOf]; omega
      · obtain ⟨x, hxe⟩ : ∃ x, rest.getD k (0, 0) = x := ⟨_, rfl⟩
        have hcase : k = 0 ∨ ∃ q y, k = q + 1 ∧ rest.getD q (0, 0) = y ∧ x ≠ y := by
          by_cases h0 : k = 0
          · exact .inl h0
          · refine .inr ⟨k - 1, _, by omega, rfl, fun h => hdd ⟨by omega, ?_⟩⟩
            rw [hxe]; exact h
        rw [hxe] at hx hy hsucc
        clear hdd hdup
        obtain ⟨x0, x1⟩ := x
        simp only at hx hy
        have HSU := Lib.hid hsucc
        have HIV := Lib.hid hiv
        have HXE := Lib.hid hxe
        have HCE := Lib.hid hce
        have HIH := Lib.hid ih
        clear hsucc hiv hxe hce ih
        have hA1 := @cellAlloc
        have hgd := guardSlot
        have hkz := hcase
        rcases hcase with rfl | ⟨q, ⟨y0, y1⟩, rfl, hye, hne⟩
        · clear hcells
          rw [Nat.zero_mul, Nat.add_zero] at hx hy
          go_wp2_with fail
          go_quiet (fail)
          go_wp2_with fail
          generalize hW : World.drewN (wr.alloc _) _ = W0
          have hbW : Below wr.heap.size wr W0 := by rw [← hW]; exact (Go.Joins.below_alloc1 _ _).trans (Go.Joins.below_draws _ _ _)
          have hcX0 : W0.cell? ⟨wr.heap.size, 0, none⟩ = some (.int .i64 x0) := by rw [← hW]; exact World.cell?_alloc_at _ _ _ _ rfl
          have hcX1 : W0.cell? ⟨wr.heap.size, 1, none⟩ = some (.int .i64 x1) := by rw [← hW]; exact World.cell?_alloc_at _ _ _ _ rfl
          have hXlt : wr.heap.size < W0.heap.size := World.block_lt_of_cell? W0 _ hcX0
          clear hW hA1 hgd
          have hce := HCE.out
          have hcE0 : W0.cell? ⟨bE, 0, none⟩ = some (.func (.func 60) #[] #[.pointer (some ⟨bD, 0, none⟩), .pointer (some ⟨bE, 0, none⟩)]) := (hbW.cell (p := ⟨bE, 0, none⟩) hce.2.2.2.1).trans hce.2.1
          have hElt : bE < W0.heap.size := Nat.lt_of_lt_of_le hce.2.2.2.1 hbW.size
          have hLl : bL < wr.heap.size := HIV.out.2.2.2.2.2.2.1
          have hBl : bB < wr.heap.size := HIV.out.2.2.2.2.2.2.2.1
          have HS := Lib.hid (fun W h => keepK (bL := bL) (bB := bB) (W := W) hcE0 hcX0 hcX1 hElt hXlt hce.2.2.2.2.2.2.1 hce.2.2.2.2.2.2.2 (Nat.ne_of_gt hLl) (Nat.ne_of_gt hBl) h)
          have hs0 := HS.out W0.drew (KeptS_below (Below.refl _ _).drew)
          have hp0 := RdS_below (RdX_rd hpr) hbW
          have hr0 := RdS_below hrs hbW
          have hbz : Below W0.heap.size W0 W0.drew := (Below.refl _ _).drew
          have hpl : part.length ≤ 6 := by omega
          have HLL := Lib.hid (show (rest.eraseIdx 0).length = m ∧ (rest.eraseIdx 0).length = nr - 1 from by have h := HN.out; rw [List.length_eraseIdx, if_pos (by omega)]; omega)
          have HSMM := Lib.hid (show smallS (part ++ [(x0, x1)]) ∧ smallS (rest.eraseIdx 0) from ⟨by intro y hy; rcases List.mem_append.1 hy with h | h; exact HSM.out.1 y h; (have hq : y = rest.getD 0 (0, 0) := by rw [HXE.out]; simpa using h); rw [hq]; exact HSM.out.2 _ (by rw [List.getD_eq_getElem?_getD, List.getElem?_eq_getElem (by have h := HN.out; omega)]; exact List.getElem_mem _), fun y hy => HSM.out.2 y (List.mem_of_mem_eraseIdx hy)⟩)
          have t1 : True := trivial
          clear hpr hrs hce hb1 hb2 hb3 hx hy hcX0 hcX1
          go_region_held3 (fun W => W.cell? ⟨bE, 0, none⟩ = some (.func (.func 60) #[] #[.pointer (some ⟨bD, 0, none⟩), .pointer (some ⟨bE, 0, none⟩)]) ∧ W.cell? ⟨wr.heap.size, 0, none⟩ = some (.int .i64 x0) ∧ W.cell? ⟨wr.heap.size, 1, none⟩ = some (.int .i64 x1) ∧ KeptS bL bB W0 W)
            (first | (with_reducible exact hs0) | (with_reducible exact HS.out _ hkz) | (with_reducible exact HS.out _ (KeptS_below hbz)) | (with_reducible exact HS.out _ (KeptS_below (belowThen hbz (Go.Joins.below_alloc1 _ _)))) | (with_reducible exact HS.out _ (KeptS_below (Go.Joins.below_alloc1 W0 _).drew)))
            (first
              | (go_at_call 32; clear t1; refine (CloneS_any po part.length cp part _ (by first | (with_reducible exact RdS_below hp0 hbz) | (with_reducible exact RdS_below hp0 (belowThen hbz (Go.Joins.below_alloc1 _ _))) | (with_reducible exact RdS_below hp0 (Go.Joins.below_alloc1 W0 _).drew)) rfl (by omega)).mono ?_; rintro e w1 ⟨v1, rfl, ho1, hb1, hv1⟩; have ho1 := baseDown ho1 (by first | (with_reducible exact hbz) | (with_reducible exact belowThen hbz (Go.Joins.below_alloc1 _ _)) | (with_reducible exact (Go.Joins.below_alloc1 W0 _).drew)); have hbz := belowThen (by first | (with_reducible exact hbz) | (with_reducible exact belowThen hbz (Go.Joins.below_alloc1 _ _)) | (with_reducible exact (Go.Joins.below_alloc1 W0 _).drew)) hb1; have hk1 := Below.refl w1.heap.size w1; have hs1 := Nat.le_refl w1.heap.size; (first | (with_reducible have hsl := RdS_below (RdS_newD _ x0 x1 _) hb1) | (with_reducible have hsl := RdS_below (RdS_new _ x0 x1 _) hb1) | skip))
              | (refine stepAppendSl (by rfl) _ _ (by rfl) W0.heap.size v1 part (by rfl) (by first | (with_reducible exact ownsS_below ho1 hk1 (Nat.le_refl _)) | (with_reducible exact ownsS_below ho1 (belowThen hk1 (Go.Joins.below_alloc1 _ _)) (Nat.le_refl _))) _ 1 1 [(x0, x1)] (by rfl) rfl (by first | (with_reducible exact hsl) | (with_reducible exact RdS_new _ _ _ _)) (.inr (by omega)) (fun k hk => Nat.lt_of_lt_of_le (hv1 k hk) (by first | (with_reducible exact hk1.size) | (with_reducible exact (belowThen hk1 (Go.Joins.below_alloc1 _ _)).size))) (by omega) (by first | (with_reducible exact hbz.size) | (with_reducible exact (belowThen hbz (Go.Joins.below_alloc1 _ _)).size)) ?_; intro b2 o2 c2 w2 hP hb2 hkk hl2 hbb; have hbz := Below.trans (by first | (with_reducible exact hbz) | (with_reducible exact belowThen hbz (Go.Joins.below_alloc1 _ _)) | (with_reducible exact (Go.Joins.below_alloc1 W0 _).drew)) hb2)
              | (go_at_call 32; refine (CloneS_pos _ nr cr rest _ (RdS_below hr0 hbz) HN.out.2.2 hnr1 (by omega)).mono ?_; rintro e w3 ⟨g3, c3, rfl, hoR, hb3, hg3, hg3l, hc3⟩; have hz0 := hbz.size; have hbz := belowThen hbz hb3; have hP := ownsS_below hP hb3 (Nat.le_refl _); have hbne : b2 ≠ g3 := (by omega))
              | (go_at_call 61; refine (DeleteS_at w2.heap.size g3 nr c3 0 _ _ (by first | rfl | omega) (by first | omega | (rw [IntKind.wrap_i64]; omega)) rest _ hoR HN.out.2.2 hlt hc3).mono ?_; rintro e w4 ⟨rfl, hoD, honly, hbD⟩; have hbz := Below.trans hbz (hbD.mono hz0); have hP := ownsS_only hP honly hbne)
              | (go_at_call 60; refine (HIH.out (stP st part rest 0) (some ⟨b2, o2, none⟩) (part.length + 1) c2 (part ++ [(x0, x1)]) (some ⟨g3, 0, none⟩) (nr - 1) c3 (rest.eraseIdx 0) _ HLL.out.1 (by simp) HLL.out.2 (by omega) HSMM.out.1 HSMM.out.2 (InvS_below HIV.out (belowThen hbW hbz)) (.inr ⟨by simp, RdX_owns hP (Nat.lt_of_lt_of_le hLl hbW.size) (Nat.lt_of_lt_of_le hBl hbW.size), ownsS_below hP (Below.refl _ _) (Nat.le_trans hiB hbW.size)⟩) (RdX_owns hoD (Nat.lt_of_lt_of_le (Nat.lt_of_lt_of_le hLl hbW.size) hz0) (Nat.lt_of_lt_of_le (Nat.lt_of_lt_of_le hBl hbW.size) hz0)) (CellsE_kept HCE.out (KeptS_below (belowThen hbW hbz)))).mono ?_; rintro e w5 ⟨rfl, hI, hkz5, hB5⟩; have hkz := KeptS_trans (KeptS_below hbz) hkz5))
          all_goals
            go_wp2
            go_roundw
            case rel => exact ⟨0 + 1, by omega, by go_num, by rw [HSU.out]; exact hI, KeptS_trans hkp (KeptS_trans (KeptS_below hbW) hkz), hbw.trans (((belowThen hbW hbz).mono hiB).trans hB5)⟩
            case measure => simp [intOf]; omega
        · obtain ⟨hx', hy'⟩ := hcells q (by rw [HN.out.2.2]; omega)
          rw [hye] at hx' hy'
          simp only at hx' hy'
          have heq := fun W => eqSlotRun x0 x1 y0 y1 W
          have hb0 : (x0 == y0 && x1 == y1) = false := by
            rw [Bool.eq_false_iff]; intro h; simp at h; exact hne (by rw [h.1, h.2])
          have hd0 : decide ((0 : Int) < ((q + 1 : Nat) : Int)) = true := decide_eq_true (by omega)
          clear hcells hye hne
          go_wp2_with fail
          go_quiet (fail)
          go_wp2_with fail
          generalize hW : World.drewN (wr.alloc _) _ = W0
          have hbW : Below wr.heap.size wr W0 := by rw [← hW]; exact (Go.Joins.below_alloc1 _ _).trans (Go.Joins.below_draws _ _ _)
          have hcX0 : W0.cell? ⟨wr.heap.size, 0, none⟩ = some (.int .i64 x0) := by rw [← hW]; exact World.cell?_alloc_at _ _ _ _ rfl
          have hcX1 : W0.cell? ⟨wr.heap.size, 1, none⟩ = some (.int .i64 x1) := by rw [← hW]; exact World.cell?_alloc_at _ _ _ _ rfl
          have hXlt : wr.heap.size < W0.heap.size := World.block_lt_of_cell? W0 _ hcX0
          clear hW hA1 hgd
          have hce := HCE.out
          have hcE0 : W0.cell? ⟨bE, 0, none⟩ = some (.func (.func 60) #[] #[.pointer (some ⟨bD, 0, none⟩), .pointer (some ⟨bE, 0, none⟩)]) := (hbW.cell (p := ⟨bE, 0, none⟩) hce.2.2.2.1).trans hce.2.1
          have hElt : bE < W0.heap.size := Nat.lt_of_lt_of_le hce.2.2.2.1 hbW.size
          have hLl : bL < wr.heap.size := HIV.out.2.2.2.2.2.2.1
          have hBl : bB < wr.heap.size := HIV.out.2.2.2.2.2.2.2.1
          have HS := Lib.hid (fun W h => keepK (bL := bL) (bB := bB) (W := W) hcE0 hcX0 hcX1 hElt hXlt hce.2.2.2.2.2.2.1 hce.2.2.2.2.2.2.2 (Nat.ne_of_gt hLl) (Nat.ne_of_gt hBl) h)
          have hs0 := HS.out W0.drew (KeptS_below (Below.refl _ _).drew)
          have hp0 := RdS_below (RdX_rd hpr) hbW
          have hr0 := RdS_below hrs hbW
          have hbz : Below W0.heap.size W0 W0.drew := (Below.refl _ _).drew
          have hpl : part.length ≤ 6 := by omega
          have HLL := Lib.hid (show (rest.eraseIdx (q + 1)).length = m ∧ (rest.eraseIdx (q + 1)).length = nr - 1 from by have h := HN.out; rw [List.length_eraseIdx, if_pos (by omega)]; omega)
          have HSMM := Lib.hid (show smallS (part ++ [(x0, x1)]) ∧ smallS (rest.eraseIdx (q + 1)) from ⟨by intro y hy; rcases List.mem_append.1 hy with h | h; exact HSM.out.1 y h; (have hq : y = rest.getD (q + 1) (0, 0) := by rw [HXE.out]; simpa using h); rw [hq]; exact HSM.out.2 _ (by rw [List.getD_eq_getElem?_getD, List.getElem?_eq_getElem (by have h := HN.out; omega)]; exact List.getElem_mem _), fun y hy => HSM.out.2 y (List.mem_of_mem_eraseIdx hy)⟩)
          have t1 : True := trivial
          clear hpr hrs hce hb1 hb2 hb3 hx hy hcX0 hcX1
          go_region_held3 (fun W => W.cell? ⟨bE, 0, none⟩ = some (.func (.func 60) #[] #[.pointer (some ⟨bD, 0, none⟩), .pointer (some ⟨bE, 0, none⟩)]) ∧ W.cell? ⟨wr.heap.size, 0, none⟩ = some (.int .i64 x0) ∧ W.cell? ⟨wr.heap.size, 1, none⟩ = some (.int .i64 x1) ∧ KeptS bL bB W0 W)
            (first | (with_reducible exact hs0) | (with_reducible exact HS.out _ hkz) | (with_reducible exact HS.out _ (KeptS_below hbz)) | (with_reducible exact HS.out _ (KeptS_below (belowThen hbz (Go.Joins.below_alloc1 _ _)))) | (with_reducible exact HS.out _ (KeptS_below (Go.Joins.below_alloc1 W0 _).drew)))
            (first
              | (go_at_call 32; clear t1; refine (CloneS_any po part.length cp part _ (by first | (with_reducible exact RdS_below hp0 hbz) | (with_reducible exact RdS_below hp0 (belowThen hbz (Go.Joins.below_alloc1 _ _))) | (with_reducible exact RdS_below hp0 (Go.Joins.below_alloc1 W0 _).drew)) rfl (by omega)).mono ?_; rintro e w1 ⟨v1, rfl, ho1, hb1, hv1⟩; have ho1 := baseDown ho1 (by first | (with_reducible exact hbz) | (with_reducible exact belowThen hbz (Go.Joins.below_alloc1 _ _)) | (with_reducible exact (Go.Joins.below_alloc1 W0 _).drew)); have hbz := belowThen (by first | (with_reducible exact hbz) | (with_reducible exact belowThen hbz (Go.Joins.below_alloc1 _ _)) | (with_reducible exact (Go.Joins.below_alloc1 W0 _).drew)) hb1; have hk1 := Below.refl w1.heap.size w1; have hs1 := Nat.le_refl w1.heap.size; (first | (with_reducible have hsl := RdS_below (RdS_newD _ x0 x1 _) hb1) | (with_reducible have hsl := RdS_below (RdS_new _ x0 x1 _) hb1) | skip))
              | (refine stepAppendSl (by rfl) _ _ (by rfl) W0.heap.size v1 part (by rfl) (by first | (with_reducible exact ownsS_below ho1 hk1 (Nat.le_refl _)) | (with_reducible exact ownsS_below ho1 (belowThen hk1 (Go.Joins.below_alloc1 _ _)) (Nat.le_refl _))) _ 1 1 [(x0, x1)] (by rfl) rfl (by first | (with_reducible exact hsl) | (with_reducible exact RdS_new _ _ _ _)) (.inr (by omega)) (fun k hk => Nat.lt_of_lt_of_le (hv1 k hk) (by first | (with_reducible exact hk1.size) | (with_reducible exact (belowThen hk1 (Go.Joins.below_alloc1 _ _)).size))) (by omega) (by first | (with_reducible exact hbz.size) | (with_reducible exact (belowThen hbz (Go.Joins.below_alloc1 _ _)).size)) ?_; intro b2 o2 c2 w2 hP hb2 hkk hl2 hbb; have hbz := Below.trans (by first | (with_reducible exact hbz) | (with_reducible exact belowThen hbz (Go.Joins.below_alloc1 _ _)) | (with_reducible exact (Go.Joins.below_alloc1 W0 _).drew)) hb2)
              | (go_at_call 32; refine (CloneS_pos _ nr cr rest _ (RdS_below hr0 hbz) HN.out.2.2 hnr1 (by omega)).mono ?_; rintro e w3 ⟨g3, c3, rfl, hoR, hb3, hg3, hg3l, hc3⟩; have hz0 := hbz.size; have hbz := belowThen hbz hb3; have hP := ownsS_below hP hb3 (Nat.le_refl _); have hbne : b2 ≠ g3 := (by omega))
              | (go_at_call 61; refine (DeleteS_at w2.heap.size g3 nr c3 (q + 1) _ _ (by first | rfl | omega) (by first | omega | (rw [IntKind.wrap_i64]; omega)) rest _ hoR HN.out.2.2 hlt hc3).mono ?_; rintro e w4 ⟨rfl, hoD, honly, hbD⟩; have hbz := Below.trans hbz (hbD.mono hz0); have hP := ownsS_only hP honly hbne)
              | (go_at_call 60; refine (HIH.out (stP st part rest (q + 1)) (some ⟨b2, o2, none⟩) (part.length + 1) c2 (part ++ [(x0, x1)]) (some ⟨g3, 0, none⟩) (nr - 1) c3 (rest.eraseIdx (q + 1)) _ HLL.out.1 (by simp) HLL.out.2 (by omega) HSMM.out.1 HSMM.out.2 (InvS_below HIV.out (belowThen hbW hbz)) (.inr ⟨by simp, RdX_owns hP (Nat.lt_of_lt_of_le hLl hbW.size) (Nat.lt_of_lt_of_le hBl hbW.size), ownsS_below hP (Below.refl _ _) (Nat.le_trans hiB hbW.size)⟩) (RdX_owns hoD (Nat.lt_of_lt_of_le (Nat.lt_of_lt_of_le hLl hbW.size) hz0) (Nat.lt_of_lt_of_le (Nat.lt_of_lt_of_le hBl hbW.size) hz0)) (CellsE_kept HCE.out (KeptS_below (belowThen hbW hbz)))).mono ?_; rintro e w5 ⟨rfl, hI, hkz5, hB5⟩; have hkz := KeptS_trans (KeptS_below hbz) hkz5))
          all_goals
            go_wp2
            go_roundw
            case rel => exact ⟨(q + 1) + 1, by omega, by go_num, by rw [HSU.out]; exact hI, KeptS_trans hkp (KeptS_trans (KeptS_below hbW) hkz), hbw.trans (((belowThen hbW hbz).mono hiB).trans hB5)⟩
            case measure => simp [intOf]; omega
    · have hkn : k = nr := by omega
      subst hkn
      have h := HST.out
      rw [HN.out.2.2] at h
      rw [h] at hiv
      go_wp2
      go_end0
      exact ⟨rfl, hiv, hkp, hbw⟩
theorem ext_all (B0 bL bB bD bE m : Nat) : ExtOk B0 bL bB bD bE m := by
  induction m with
  | zero => exact ext_zero B0 bL bB bD bE
  | succ m ih => exact ext_succ B0 bL bB bD bE m ih
end Go.Proofs.Ytjcbffkdemadnaa
