/- What a digit is shown as is 1 together, and the chances of what was shown are, too, whatever is drawn. No conditions. -/
import Derived.Test.YtpcmlfohblglaaaDraw9
import Derived.Test.YtpcmlfohblglaaaFlickM
import Derived.Test.YtpcmlfohblglaaaPlus
import Derived.Test.YtpcmlfohblglaaaVCut
import Derived.Lib.Hide
import Derived.Deep.RegionWith
import Derived.Deep.Cut
namespace Go.Proofs.Ytpcmlfohblglaaa
open Go.RowKit

theorem RdY_row {w : World} {ao : Option Addr} {len cap : Nat} {zs : List Int} (h : RowIn .u8 w ao len cap zs) : RdY w ao len ∧ len ≤ cap := by
  rcases h with ⟨rfl, rfl, rfl, rfl⟩ | ⟨x, rfl, hl, hm, hz, hc, hw⟩
  · exact ⟨⟨Nat.zero_le _, .inl rfl⟩, Nat.le_refl _⟩
  · refine ⟨⟨by omega, ?_⟩, hl⟩
    by_cases h0 : len = 0
    · exact .inl h0
    · right
      obtain ⟨b, off, rfl, hcell⟩ := ints_at hc (by omega)
      have h00 := hcell 0 (by omega)
      refine ⟨b, off, rfl, World.block_lt_of_cell? w _ h00, fun j hj => ?_⟩
      have hwf := hw (zs.getD j 0) (by rw [List.getD_eq_getElem?_getD, List.getElem?_eq_getElem (by omega)]; exact List.getElem_mem _)
      have hb : 0 ≤ zs.getD j 0 ∧ zs.getD j 0 ≤ 255 := by simpa [Lit.wf, IntKind.min, IntKind.max, IntKind.signed, IntKind.bits] using hwf
      obtain ⟨x, hx⟩ := Int.eq_ofNat_of_zero_le hb.1
      refine ⟨x, by omega, ?_⟩
      rw [hcell j (by omega), hx]
/-- A block holds two values. -/
def P2 (W : World) (g : Nat) (u v : Value) : Prop := g < W.heap.size ∧ W.cell? ⟨g, 0, none⟩ = some u ∧ W.cell? ⟨g, 1, none⟩ = some v
theorem P2.new (w : World) (u v : Value) (T : TypeId) : P2 (w.alloc (.cells #[u, v] T)) w.heap.size u v := ⟨by simp, World.cell?_alloc_at _ _ _ _ rfl, World.cell?_alloc_at _ _ _ _ rfl⟩
theorem P2.below {W W' : World} {g : Nat} {u v : Value} (h : P2 W g u v) (hb : Below W.heap.size W W') : P2 W' g u v :=
  ⟨Nat.lt_of_lt_of_le h.1 hb.size, (hb.cell (p := ⟨g, 0, none⟩) h.1).trans h.2.1, (hb.cell (p := ⟨g, 1, none⟩) h.1).trans h.2.2⟩
theorem P2.alloc {W : World} {g : Nat} {u v : Value} (h : P2 W g u v) (o : Obj) : P2 (W.alloc o) g u v := h.below (Go.Joins.below_alloc1 _ _)
/-- A block of the call's own holds two values. -/
def P2F (W : World) (g : Nat) (u v : Value) : Prop := P2 W g u v ∧ W.frozen? ⟨g, 0, none⟩ = false ∧ W.frozen? ⟨g, 1, none⟩ = false
theorem P2F.new (w : World) (u v : Value) (T : TypeId) : P2F (w.alloc (.cells #[u, v] T)) w.heap.size u v := ⟨P2.new w u v T, World.frozen?_alloc_at _ _ _ _ rfl, World.frozen?_alloc_at _ _ _ _ rfl⟩
theorem P2F.below {W W' : World} {g : Nat} {u v : Value} (h : P2F W g u v) (hb : Below W.heap.size W W') : P2F W' g u v :=
  ⟨h.1.below hb, (hb.frozen (p := ⟨g, 0, none⟩) h.1.1).trans h.2.1, (hb.frozen (p := ⟨g, 1, none⟩) h.1.1).trans h.2.2⟩
theorem P2F.alloc {W : World} {g : Nat} {u v : Value} (h : P2F W g u v) (o : Obj) : P2F (W.alloc o) g u v := h.below (Go.Joins.below_alloc1 _ _)
theorem P2F.set {W : World} {g : Nat} {u v : Value} (h : P2F W g u v) (u' v' : Value) : P2F ((W.setCell ⟨g, 0, none⟩ u').setCell ⟨g, 1, none⟩ v') g u' v' := by
  refine ⟨⟨by rw [heapSet, heapSet]; exact h.1.1, ?_, ?_⟩, ?_, ?_⟩
  · rw [World.cell?_setCell_other _ _ _ _ (by simp)]
    exact World.cell?_setCell_same _ _ _ h.1.2.1
  · exact World.cell?_setCell_same _ _ _ (by rw [World.cell?_setCell_other _ _ _ _ (by simp)]; exact h.1.2.2)
  · rw [World.frozen?_setCell, World.frozen?_setCell]; exact h.2.1
  · rw [World.frozen?_setCell, World.frozen?_setCell]; exact h.2.2
/-- The chances of all digits and of none, as parts of a whole. -/
theorem nd_whole (n p q : Int) (h : ndOk n p q = true) : ∃ (R T : Nat) (f : Nat → Nat), 0 < T ∧ T ≤ 10000000 ∧ ndA n p q = rA R T ∧ ndB n p q = rB R T ∧ (∀ k : Nat, k < 10 → raOk n k p q = true ∧ raA n k p q = rA (f k) T ∧ raB n k p q = rB (f k) T) ∧ R + sumN f 10 = T := by
  obtain ⟨D, P9, Q9, rfl, rfl, rfl, hD, hPQ, hQ1, hQ, eA, eB, hra, hsum⟩ := nd_parts n p q h
  exact ⟨_, Q9 ^ 7, _, Nat.pow_pos (by omega), pow_le7 Q9 7 hQ (by omega), eA, eB, hra, hsum⟩
/-- The chances of all digits, as parts of a whole. -/
theorem cfo_parts (c p q : Int) (h : cfoOk c p q = true) : ∃ S P' Q t : Nat, cfN c p q = 10 ∧ cfL c p q = fracsP S P' Q t 10 ∧ 0 < t ∧ t ≤ 100000000 ∧ (∀ k, k ≤ 10 → total S P' Q k ≤ 100000000) ∧ (∀ k, partN (digC k) S P' Q ≤ 10000000) ∧ total S P' Q 10 = t := by
  have hok := h
  simp only [cfoOk, cfvOk, Bool.and_eq_true] at hok
  obtain ⟨⟨h1, h2⟩, h3⟩ := hok
  obtain ⟨P', Q, rfl, rfl, hPQ, hQ1, hQ⟩ := flick_nat h2
  refine ⟨c.toNat, P', Q, total c.toNat P' Q 10, by unfold cfN; rw [if_pos h], by unfold cfL; rw [if_pos h]; rfl, by simpa using h3, ?_, fun k hk => ?_, fun k => partN_le _ _ _ _ hPQ hQ, rfl⟩
  · have := total_le c.toNat P' Q 10 hPQ hQ; omega
  · have := total_le c.toNat P' Q k hPQ hQ; omega
theorem belowNext {w a b : World} (h : Below w.heap.size w a) (k : Below a.heap.size a b) : Below w.heap.size w b := belowThen h k
theorem fracsP_len (c p q t : Nat) (m : Nat) : (fracsP c p q t m).length = m * 2 := by
  induction m with
  | zero => rfl
  | succ m ih => simp [fracsP, ih]; omega
theorem cfL_len (c p q : Int) : (cfL c p q).length = cfN c p q * 2 := by
  unfold cfL cfN
  split
  · exact fracsP_len _ _ _ _ _
  · rfl
theorem cf_zeroP {c a p q : Int} (h : cfOk c a p q = true) (hp : p = 0) : (cfA c a p q != 0) = (c == a) := by
  subst hp; exact cf_zero c a q h
set_option maxRecDepth 100000 in
set_option maxHeartbeats 4000000 in
theorem fnFlicker_walk (ao : Option Addr) (n cap : Nat) (z : List Int) (w : World) (hw : RowIn .u8 w ao n cap z) :
    Calls Try.prog 3 #[.slice ao n cap] w fun e w' => e = .returned (.bool true) ∧ Below w.heap.size w w' := by
  obtain ⟨hY, hnc⟩ := RdY_row hw
  clear hw z
  have HY := Lib.hid hY
  clear hY
  by_cases hbig : n ≤ 65536
  rotate_left
  · have hA1 := @cellAlloc; have hA2 := @frozenAlloc; have hA3 := @setCellAlloc; go_enter Try.func3, Try.ntmps3
    have hd : decide ((65536 : Int) < (n : Int)) = true := decide_eq_true (by omega)
    go_wp2_with (go_at_call 4; refine (vBig_any _ _ _ _).mono ?_; rw [hd]; rintro e w' ⟨rfl, rfl⟩)
    go_ret
    exact ⟨rfl, Below.refl _ _⟩
  have hd : decide ((65536 : Int) < (n : Int)) = false := decide_eq_false (by omega)
  have hnq := neqPair
  have hgp := guardPair
  have HC := Lib.hid (fun k W h => vCut_any ao n cap k W h hbig)
  have hA1 := @cellAlloc; have hA2 := @frozenAlloc; have hA3 := @setCellAlloc; go_enter Try.func3, Try.ntmps3
  go_upto_if 170 with (first
    | (go_at_call 4; refine (vBig_any _ _ _ _).mono ?_; rw [hd]; rintro e w' ⟨rfl, rfl⟩)
    | (go_at_call 5; refine (DrawChanceFlicker_any ao n cap w HY.out).mono ?_; rintro e w1 ⟨⟨c, a, p, q, rfl⟩, hb1⟩)
    | (go_at_call 6; refine (ChanceFlickerI_any c a p q w1).mono ?_; rintro e w2 ⟨rfl, hb2⟩; have hB2 := belowNext hb1 hb2; have k7 := P2.new w2 (.int .i64 (cfA c a p q)) (.int .i64 (cfB c a p q)) 26; clear hb1 hb2)
    | (go_at_call 7; refine (ChanceFlickerS_any c a p q _).mono ?_; rintro e w3 ⟨rfl, hb3⟩; have hB3 := belowNext (hB2.trans ((Go.Joins.below_alloc1 _ _).mono hB2.size)) hb3; replace k7 := (k7.below hb3).alloc (.cells #[(.int .i64 (cfA c a p q)), (.int .i64 (cfB c a p q))] 26); have k9 := P2.new w3 (.int .i64 (cfA c a p q)) (.int .i64 (cfB c a p q)) 26; clear hB2 hb3)
    | (go_at_call 9; first
        | (refine (HC.out 2 _ (RdY_below HY.out (hB7.trans ((Go.Joins.below_alloc1 _ _).mono hB7.size))) (by decide) hnc).mono ?_; rintro e w8 ⟨ao8, n8, cap8, rfl, hY8, hn8, hb8⟩; have hB8 := belowNext (hB7.trans ((Go.Joins.below_alloc1 _ _).mono hB7.size)) hb8; replace k7 := (k7.alloc (.cells #[(.int .i64 (raA d e2 x y)), (.int .i64 (raB d e2 x y))] 26)).below hb8; replace k9 := (k9.alloc (.cells #[(.int .i64 (raA d e2 x y)), (.int .i64 (raB d e2 x y))] 26)).below hb8; replace k15 := (k15.alloc (.cells #[(.int .i64 (raA d e2 x y)), (.int .i64 (raB d e2 x y))] 26)).below hb8; have k17 := (P2.new w7 (.int .i64 (raA d e2 x y)) (.int .i64 (raB d e2 x y)) 26).below hb8; clear hB7 hb8)
        | (refine (HC.out 1 _ (RdY_below HY.out (hB3.trans ((Go.Joins.below_alloc1 _ _).mono hB3.size))) (by decide) hnc).mono ?_; rintro e w4 ⟨ao4, n4, cap4, rfl, hY4, hn4, hb4⟩; have hB4 := belowNext (hB3.trans ((Go.Joins.below_alloc1 _ _).mono hB3.size)) hb4; replace k7 := k7.below hb4; replace k9 := k9.below hb4; clear hB3 hb4))
    | (go_at_call 8; refine (DrawChanceReadAs_any ao4 n4 cap4 w4 hY4).mono ?_; rintro e w5 ⟨⟨d, e2, x, y, rfl⟩, hb5⟩; have hB5 := belowNext hB4 hb5; replace k7 := k7.below hb5; replace k9 := k9.below hb5; clear hB4 hb5 hY4 hn4)
    | (go_at_call 10; refine (ChanceReadAsI_any d e2 x y w5).mono ?_; rintro e w6 ⟨rfl, hb6⟩; have hB6 := belowNext hB5 hb6; replace k7 := k7.below hb6; replace k9 := k9.below hb6; clear hB5 hb6)
    | (go_at_call 11; refine (ChanceReadAsS_any d e2 x y _).mono ?_; rintro e w7 ⟨rfl, hb7⟩; have hB7 := belowNext (hB6.trans ((Go.Joins.below_alloc1 _ _).mono hB6.size)) hb7; replace k7 := (k7.alloc (.cells #[(.int .i64 (raA d e2 x y)), (.int .i64 (raB d e2 x y))] 26)).below hb7; replace k9 := (k9.alloc (.cells #[(.int .i64 (raA d e2 x y)), (.int .i64 (raB d e2 x y))] 26)).below hb7; have k15 := (P2.new w6 (.int .i64 (raA d e2 x y)) (.int .i64 (raB d e2 x y)) 26).below hb7; clear hB6 hb7)
    | (go_at_call 12; refine (DrawChanceNoDigit_any ao8 n8 cap8 w8 hY8).mono ?_; rintro e w9 ⟨⟨n2, u, v, rfl⟩, hb9⟩; have hB9 := belowNext hB8 hb9; replace k7 := k7.below hb9; replace k9 := k9.below hb9; replace k15 := k15.below hb9; replace k17 := k17.below hb9; clear hB8 hb9 hY8 hn8)
    | (go_at_call 13; refine (ChanceNoDigitI_any n2 u v w9).mono ?_; rintro e w10 ⟨rfl, hb10⟩; have hB10 := belowNext hB9 hb10; replace k7 := k7.below hb10; replace k9 := k9.below hb10; replace k15 := k15.below hb10; replace k17 := k17.below hb10; clear hB9 hb10)
    | (go_at_call 14; refine (ChanceNoDigitS_any n2 u v _).mono ?_; rintro e w11 ⟨rfl, hb11⟩; have hB11 := belowNext (hB10.trans ((Go.Joins.below_alloc1 _ _).mono hB10.size)) hb11; replace k7 := (k7.alloc (.cells #[(.int .i64 (ndA n2 u v)), (.int .i64 (ndB n2 u v))] 26)).below hb11; replace k9 := (k9.alloc (.cells #[(.int .i64 (ndA n2 u v)), (.int .i64 (ndB n2 u v))] 26)).below hb11; replace k15 := (k15.alloc (.cells #[(.int .i64 (ndA n2 u v)), (.int .i64 (ndB n2 u v))] 26)).below hb11; replace k17 := (k17.alloc (.cells #[(.int .i64 (ndA n2 u v)), (.int .i64 (ndB n2 u v))] 26)).below hb11; have k22 := (P2.new w10 (.int .i64 (ndA n2 u v)) (.int .i64 (ndB n2 u v)) 26).below hb11; clear hB10 hb11)
    | (go_at_call 15; refine (DrawChancesFor_any ao n cap _ (RdY_below HY.out (hB11.trans ((Go.Joins.below_alloc1 _ _).mono hB11.size)))).mono ?_; rintro e w12 ⟨⟨s, g, h, rfl⟩, hb12⟩; have hB12 := belowNext (hB11.trans ((Go.Joins.below_alloc1 _ _).mono hB11.size)) hb12; replace k7 := (k7.alloc (.cells #[(.int .i64 (ndA n2 u v)), (.int .i64 (ndB n2 u v))] 26)).below hb12; replace k9 := (k9.alloc (.cells #[(.int .i64 (ndA n2 u v)), (.int .i64 (ndB n2 u v))] 26)).below hb12; replace k15 := (k15.alloc (.cells #[(.int .i64 (ndA n2 u v)), (.int .i64 (ndB n2 u v))] 26)).below hb12; replace k17 := (k17.alloc (.cells #[(.int .i64 (ndA n2 u v)), (.int .i64 (ndB n2 u v))] 26)).below hb12; replace k22 := (k22.alloc (.cells #[(.int .i64 (ndA n2 u v)), (.int .i64 (ndB n2 u v))] 26)).below hb12; have k24 := (P2.new w11 (.int .i64 (ndA n2 u v)) (.int .i64 (ndB n2 u v)) 26).below hb12; clear hB11 hb12)
    | (go_at_call 16; refine (ChancesForI_any s g h w12).mono ?_; rintro e w13 ⟨ao13, cap13, rfl, ho13, hb13⟩; have hB13 := belowNext hB12 hb13; replace k7 := k7.below hb13; replace k9 := k9.below hb13; replace k15 := k15.below hb13; replace k17 := k17.below hb13; replace k22 := k22.below hb13; replace k24 := k24.below hb13; clear hB12 hb13)
    | (go_at_call 17; refine (ChancesForS_any s g h w13).mono ?_; rintro e w14 ⟨ao14, cap14, rfl, ho14, hb14⟩; have hB14 := belowNext hB13 hb14; replace k7 := k7.below hb14; replace k9 := k9.below hb14; replace k15 := k15.below hb14; replace k17 := k17.below hb14; replace k22 := k22.below hb14; replace k24 := k24.below hb14; have hr13 := RdI_below (RdI_pairs ho13) hb14; have hr14 := RdI_pairs ho14; clear hB13 hb14 ho13 ho14; obtain ⟨k7l, k7a, k7b⟩ := k7; obtain ⟨k9l, k9a, k9b⟩ := k9; obtain ⟨k15l, k15a, k15b⟩ := k15; obtain ⟨k17l, k17a, k17b⟩ := k17; obtain ⟨k22l, k22a, k22b⟩ := k22; obtain ⟨k24l, k24a, k24b⟩ := k24)
    | (go_at_call 18; refine (vPairs_same ao13 ao14 (cfN s g h) cap13 cap14 (cfL s g h) w14 hr13 hr14 (cfL_len s g h) (by unfold cfN; split <;> decide)).mono ?_; rintro e w15 ⟨rfl, hb15⟩; have hB15 := belowNext hB14 hb15; have k7 := P2.below ⟨k7l, k7a, k7b⟩ hb15; have k22 := P2.below ⟨k22l, k22a, k22b⟩ hb15; replace hr13 := RdI_below hr13 hb15; clear k7l k7a k7b k9l k9a k9b k15l k15a k15b k17l k17a k17b k22l k22a k22b k24l k24a k24b hr14 hB14 hb15; obtain ⟨k7l, k7a, k7b⟩ := k7; obtain ⟨k22l, k22a, k22b⟩ := k22))
  go_cut [5, 8, 10] from 41 (fun _ _ _ wx => P2 wx w10.heap.size (.int .i64 (ndA n2 u v)) (.int .i64 (ndB n2 u v)) ∧ RdI wx ao13 (cfL s g h) ∧ Below w.heap.size w wx)
  case first =>
    have hz := Lib.hid (fun h1 h2 => cf_zeroP (c := c) (a := a) (p := p) (q := q) h1 h2)
    go_wp2_with (go_at_call 6; refine (ChanceFlickerI_any a c p q w15).mono ?_; rw [(cf_sym c a p q).1, (cf_sym c a p q).2.1, (cf_sym c a p q).2.2]; rintro e w16 ⟨rfl, hb16⟩; have hB16 := belowNext hB15 hb16; have k7 := P2.below ⟨k7l, k7a, k7b⟩ hb16; have k22 := P2.below ⟨k22l, k22a, k22b⟩ hb16; have hr16 := RdI_below hr13 hb16; clear k7l k7a k7b hb16; obtain ⟨k7l, k7a, k7b⟩ := k7)
    · exfalso
      have h8 := hz.out (by assumption) (by assumption)
      rename_i hp0 h9
      subst hp0
      rw [h8] at h9
      simp at h9
    · go_meet
      exact ⟨k22.alloc _, RdI_below hr16 (Go.Joins.below_alloc1 _ _), hB16.trans ((Go.Joins.below_alloc1 _ _).mono hB16.size)⟩
    · go_meet
      exact ⟨k22.alloc _, RdI_below hr16 (Go.Joins.below_alloc1 _ _), hB16.trans ((Go.Joins.below_alloc1 _ _).mono hB16.size)⟩
    · go_meet
      exact ⟨⟨k22l, k22a, k22b⟩, hr13, hB15⟩
  case rest =>
  clear k7l k7a k7b k22l k22a k22b hr13 hB15
  obtain ⟨k22, hr13, hB15⟩ := hcut
  go_upto_if 199 with fail
  go_cut [23, 25] from 41 (fun _ _ wx => RdI wx ao13 (cfL s g h) ∧ Below w.heap.size w wx)
  case first =>
    obtain ⟨k22l, k22a, k22b⟩ := k22
    go_wp2_with fail
    · skip
      have hBB : Below w.heap.size w wc := hB15
      have hrB : RdI wc ao13 (cfL s g h) := hr13
      have hnd : ndOk n2 u v = true := by assumption
      obtain ⟨R, T, f, hT0, hT7, eA, eB, hra, hsum⟩ := nd_whole n2 u v hnd
      have hmono : ∀ k, k ≤ 10 → sumN f k ≤ sumN f 10 := fun k h => sumN_mono _ h
      have HRa := Lib.hid hra
      rw [eA, eB]
      try rw [hnd]
      clear hra eA eB hnd
      have KB := Lib.hid (P2F.new wc (.int .i64 (rA R T)) (.int .i64 (rB R T)) 26)
      have HBB := Lib.hid (hBB.trans ((Go.Joins.below_alloc1 wc (.cells #[.int .i64 (rA R T), .int .i64 (rB R T)] 26)).mono hBB.size))
      have HRB := Lib.hid (RdI_below hrB (Go.Joins.below_alloc1 wc (.cells #[.int .i64 (rA R T), .int .i64 (rB R T)] 26)))
      have hlB : ∀ W', Below wc.heap.size (wc.alloc (.cells #[.int .i64 (rA R T), .int .i64 (rB R T)] 26)) W' → RdI W' ao13 (cfL s g h) := fun W' hW' => by
        rcases hrB with h9 | ⟨b1, o1, rfl, hl, hc⟩
        · exact .inl h9
        · refine .inr ⟨b1, o1, rfl, by have := hW'.size; rw [heapAlloc] at this; omega, fun j hj => ?_⟩
          exact ((hW'.cell (p := ⟨b1, o1 + j, none⟩) hl).trans ((Go.Joins.below_alloc1 wc _).cell (p := ⟨b1, o1 + j, none⟩) hl)).trans (hc j hj)
      have HLB := Lib.hid hlB
      have hBs := hBB.size
      clear hBB hrB hlB
      generalize (wc.alloc (.cells #[.int .i64 (rA R T), .int .i64 (rB R T)] 26)) = WB at *
      generalize wc.heap.size = gB at *
      go_loopw [36] (fun i wr => ∃ k : Nat, k ≤ 10 ∧ i = .int .i64 k ∧ P2F wr gB (.int .i64 (rA (R + sumN f k) T)) (.int .i64 (rB (R + sumN f k) T)) ∧ Below gB WB wr) (fun i _ => 10 - (intOf i).toNat)
      case atStart => exact ⟨0, by omega, rfl, KB.out, Below.refl _ _⟩
      case round =>
        obtain ⟨k, hk, rfl, hP, hbw⟩ := hrel
        by_cases hlt : k < 10
        · have hraK := HRa.out k hlt
          have HAs := Lib.hid (fun W => by have h9 := ChanceReadAsI_any n2 k u v W; rw [hraK.1, hraK.2.1, hraK.2.2] at h9; exact h9 : ∀ W, Calls Try.prog 10 #[.int .i64 n2, .int .i64 k, .int .i64 u, .int .i64 v] W fun e w' => e = .returned (.tuple #[.agg #[.int .i64 (rA (f k) T), .int .i64 (rB (f k) T)], .bool true]) ∧ Below W.heap.size W w')
          have hpl := plus_red (R + sumN f k) (f k) T hT0
          rw [Nat.add_assoc, ← sumN_succ] at hpl
          have b1' := red_le (R + sumN f k) T
          have b2' := red_le (f k) T
          have p1 := red_pos (R + sumN f k) T hT0
          have p2 := red_pos (f k) T hT0
          have m1 := hmono (k + 1) (by omega)
          rw [sumN_succ] at m1
          have HP := Lib.hid hP
          clear hP hraK
          have hz1a : rA (R + sumN f k) T = ((red (R + sumN f k) T).1 : Int) := rfl
          have hz1b : rB (R + sumN f k) T = ((red (R + sumN f k) T).2 : Int) := rfl
          have hz2a : rA (f k) T = ((red (f k) T).1 : Int) := rfl
          have hz2b : rB (f k) T = ((red (f k) T).2 : Int) := rfl
          rw [hz1a, hz1b] at HP
          rw [hz2a, hz2b] at HAs
          generalize red (R + sumN f k) T = z1 at hpl b1' p1 HP hz1a hz1b
          generalize red (f k) T = z2 at hpl b2' p2 HAs hz2a hz2b
          have HPl := Lib.hid hpl
          clear hpl hz1a hz1b hz2a hz2b
          have HV := Lib.hid (fun W => vPlus_any z1.1 z1.2 z2.1 z2.2 W (by omega) (by omega) (by omega) (by omega) p1 p2)
          have hd10 : decide ((k : Int) < 10) = true := decide_eq_true (by omega)
          go_wp2_with (first
            | (go_at_call 10; refine (HAs.out _).mono ?_; rintro e w20 ⟨rfl, hb20⟩; obtain ⟨⟨s0, s1, s2⟩, s3, s4⟩ := HP.out.below hb20; have HPe := Lib.hid (HP.out.below hb20))
            | (go_at_call 19; refine (HV.out _).mono ?_; rw [HPl.out]; rintro e w21 ⟨rfl, hb21⟩; have HPf := (HPe.out.alloc (.cells #[.int .i64 z2.1, .int .i64 z2.2] 26)).below hb21; have HPg := Lib.hid HPf; clear s0 s1 s2 s3 s4; obtain ⟨⟨s0, s1, s2⟩, s3, s4⟩ := HPf))
          have hbx : Below gB WB w21 := ((hbw.trans (hb20.mono (by have := HP.out.1.1; omega))).trans ((Go.Joins.below_alloc1 w20 (.cells #[.int .i64 z2.1, .int .i64 z2.2] 26)).mono (by have := HPe.out.1.1; omega))).trans (hb21.mono (by have := HPe.out.1.1; rw [heapAlloc]; omega))
          go_roundw
          case rel => exact ⟨k + 1, by omega, by go_num, P2F.set HPg.out _ _, (hbx.setCell (Nat.le_refl _) _).setCell (Nat.le_refl _) _⟩
          case measure => simp [intOf]; omega
        · have hk10 : k = 10 := by omega
          subst hk10
          have hfin : red (R + sumN f 10) T = (1, 1) := by rw [hsum]; exact red_self T hT0
          obtain ⟨⟨q0, q1, q2⟩, q3, q4⟩ := hP
          unfold rA at q1
          unfold rB at q2
          rw [hfin] at q1 q2
          have hBw : Below w.heap.size w wr := HBB.out.trans (hbw.mono hBs)
          have hrw := HLB.out wr hbw
          clear hsum hmono hfin
          go_wp2_with fail
          go_meet
          exact ⟨hrw, hBw⟩
    · go_meet
      exact ⟨hr13, hB15⟩
  case rest =>
  clear hr13 hB15 k22
  obtain ⟨hr13, hB15⟩ := hcut
  go_wp2_with fail
  · skip
    have hBC : Below w.heap.size w wc := hB15
    have hrC : RdI wc ao13 (cfL s g h) := hr13
    have hone : cfoOk s g h = true := by assumption
    obtain ⟨S, P', Q, t, hcN, hcL, ht0, ht8, htot, hpt, hcT⟩ := cfo_parts s g h hone
    rw [hcL] at hrC
    rw [hcN]
    try rw [hone]
    have KC := Lib.hid (P2F.new wc (.int .i64 0) (.int .i64 1) 26)
    have KS : wc.heap.size < (wc.alloc (.cells #[.int .i64 0, .int .i64 1] 26)).heap.size := by rw [heapAlloc]; omega
    have HBC := Lib.hid (hBC.trans ((Go.Joins.below_alloc1 wc (.cells #[.int .i64 0, .int .i64 1] 26)).mono hBC.size))
    have HRC := Lib.hid (RdI_below hrC (Go.Joins.below_alloc1 wc (.cells #[.int .i64 0, .int .i64 1] 26)))
    have hBs := hBC.size
    have hrl : ao13 = none ∨ ∃ b1 o1, ao13 = some ⟨b1, o1, none⟩ ∧ b1 < wc.heap.size := by
      rcases hrC with h9 | ⟨b1, o1, he, hl, -⟩
      · have := congrArg List.length h9; rw [fracsP_len] at this; simp at this
      · exact .inr ⟨b1, o1, he, hl⟩
    skip
    clear hBC hrC hcL
    generalize (wc.alloc (.cells #[.int .i64 0, .int .i64 1] 26)) = WC at *
    generalize wc.heap.size = gC at *
    go_loopw [40] (fun i wr => ∃ k : Nat, k ≤ 10 ∧ i = .int .i64 k ∧ P2F wr gC (.int .i64 (rA (total S P' Q k) t)) (.int .i64 (rB (total S P' Q k) t)) ∧ Below gC WC wr) (fun i _ => 10 - (intOf i).toNat)
    case atStart => exact ⟨0, by omega, rfl, by have h9 := KC.out; rw [show total S P' Q 0 = 0 from rfl, rA, rB, red_nil t ht0]; exact h9, Below.refl _ _⟩
    case round =>
      obtain ⟨k, hk, rfl, hP, hbw⟩ := hrel
      by_cases hlt : k < 10
      · obtain ⟨⟨q0, q1, q2⟩, q3, q4⟩ := hP
        have hx := fracsP_at S P' Q t 10 k hlt
        rcases hrl with h9 | ⟨b1, o1, rfl, hb1⟩
        · exfalso; subst h9; rcases HRC.out with h9 | ⟨b1, o1, he, -⟩
          · have := congrArg List.length h9; rw [fracsP_len] at this; simp at this
          · cases he
        have hrr : wr.cell? ⟨b1, o1 + k * 2, none⟩ = some (.int .i64 (rA (partN (digC k) S P' Q) t)) ∧ wr.cell? ⟨b1, o1 + k * 2 + 1, none⟩ = some (.int .i64 (rB (partN (digC k) S P' Q) t)) := by
          rcases HRC.out with h9 | ⟨b2, o2, he, hl2, hc2⟩
          · have := congrArg List.length h9; rw [fracsP_len] at this; simp at this
          · have he' : b1 = b2 ∧ o1 = o2 := by simpa using he
            obtain ⟨rfl, rfl⟩ := he'
            refine ⟨(hbw.cell (p := ⟨b1, o1 + k * 2, none⟩) hb1).trans ?_, (hbw.cell (p := ⟨b1, o1 + k * 2 + 1, none⟩) hb1).trans ?_⟩
            · rw [hc2 (k * 2) (by rw [fracsP_len]; omega), hx.1]
            · rw [Nat.add_assoc, hc2 (k * 2 + 1) (by rw [fracsP_len]; omega), hx.2]
        obtain ⟨r1, r2⟩ := hrr
        have hpl := plus_red (total S P' Q k) (partN (digC k) S P' Q) t ht0
        rw [← total_succ] at hpl
        have b1' := red_le (total S P' Q k) t
        have b2' := red_le (partN (digC k) S P' Q) t
        have p1 := red_pos (total S P' Q k) t ht0
        have p2 := red_pos (partN (digC k) S P' Q) t ht0
        have m1 := htot k (by omega)
        have m2 := hpt k
        have HPs : Hid (P2F wr gC (.int .i64 (rA (total S P' Q k) t)) (.int .i64 (rB (total S P' Q k) t))) := Lib.hid ⟨⟨q0, q1, q2⟩, q3, q4⟩
        unfold rA at q1 r1
        unfold rB at q2 r2
        generalize hz1 : red (total S P' Q k) t = z1 at hpl b1' p1 q1 q2
        generalize hz2 : red (partN (digC k) S P' Q) t = z2 at hpl b2' p2 r1 r2
        have HPl := Lib.hid hpl
        clear hpl hx hz1 hz2
        have HV := Lib.hid (fun W => vPlus_any z1.1 z1.2 z2.1 z2.2 W (by omega) (by omega) (by omega) (by omega) p1 p2)
        have hd10 : decide ((k : Int) < 10) = true := decide_eq_true (by omega)
        go_wp2_with fail
        go_region_with ((go_at_call 19; refine (HV.out _).mono ?_; rw [HPl.out]; rintro e w30 ⟨rfl, hb30⟩; have HPe := Lib.hid ((show P2F wr.drew gC _ _ from HPs.out).below hb30); obtain ⟨⟨s0, s1, s2⟩, s3, s4⟩ := HPe.out; have hbx : Below gC WC w30 := hbw.drew.trans (hb30.mono (by show gC ≤ wr.heap.size; omega))))
        all_goals
          go_wp2_with fail
          go_roundw
          case rel => exact ⟨k + 1, by omega, by go_num, P2F.set HPe.out _ _, (hbx.setCell (Nat.le_refl _) _).setCell (Nat.le_refl _) _⟩
          case measure => simp [intOf]; omega
      · have hk10 : k = 10 := by omega
        subst hk10
        have hfin : red (total S P' Q 10) t = (1, 1) := by rw [hcT]; exact red_self t ht0
        obtain ⟨⟨q0, q1, q2⟩, q3, q4⟩ := hP
        unfold rA at q1
        unfold rB at q2
        rw [hfin] at q1 q2
        go_wp2
        go_ret
        exact ⟨rfl, HBC.out.trans (hbw.mono (by omega))⟩
  · go_ret
    exact ⟨rfl, hB15⟩
end Go.Proofs.Ytpcmlfohblglaaa
namespace Go.Proofs.Ytpcmlfohblglaaa.fnFlicker
open Go.ChangeShapes Go.WideShapes Go.ChangeAt Go.RowKit Go.Joins
open Go.ChangeMaps (open_string shut_string)
set_option linter.unusedVariables false
theorem own : ownKnob Try.prog.godebug = none := by kernel_rfl
theorem laidOut : laidOutB Try.prog = true := by kernel_rfl
set_option maxRecDepth 100000 in
theorem lifted (os : Os) (started : os.Started) (H : Type) (enc : TypeId × Value → H) :
    ReturnsInHanded {} Try.checked os 3 .any (Rows.fnFlickerSpec.pre6 enc Try.prog Try.f3 Rows.fnFlickerRow.domain false) (Rows.fnFlickerSpec.post enc Try.prog Try.f3 false true false false) := by
  refine returnsInHanded_of_change (C := Try.checked) own started (by kernel_rfl) Try.func3
    (ChangeSpec.witness6 (enc := enc) (C := Try.checked) false ⟨#[], #[.slice none 0 0], []⟩ 8 (by kernel_rfl) (by kernel_rfl) (by kernel_rfl) (by kernel_rfl)) ?_
  intro W base args ds gs before hval0 hW hcnd _
  have hval : ∀ (j : Nat) t v, Try.f3.params[j]? = some t → args[j]? = some v → Value.okWide Try.prog W .any base t v := hval0
  have hW' := hW
  obtain ⟨p, q, hA0, hV, rfl, hfz, hnd⟩ := hW
  have hA : DataW.TrodAll enc Try.prog W 0 (fun _ => true) true Try.f3.params.toList args.toList ds p := hA0
  rw [Try.params3] at hA hval
  obtain ⟨v0, vs0, d0, ds0, p0, q0, hargs, rfl, rfl, h0, r0⟩ := trodAll_cons hA
  obtain ⟨rfl, rfl, rfl⟩ := trodAll_nil r0
  obtain rfl : args = #[v0] := by cases args; simp_all
  obtain ⟨rfl, rfl⟩ := trodVars_none hV
  have k0 := h0
  have lt0 : ∀ x ∈ p0, x.block < W.heap.size := by obtain ⟨m, hm⟩ := k0; exact DataW.trod_lt m _ _ _ hm
  obtain ⟨a0, len0, cap0, rfl⟩ := okWide_slice Try.underlying22 (hval 0 22 v0 rfl rfl)
  obtain ⟨z0, w0⟩ : ∃ zs, RowIn .u8 W a0 len0 cap0 zs := by
    obtain ⟨fuel, hf⟩ := h0
    rcases open_ints Try.underlying22 Try.underlying5 (by kernel_rfl) hf with ⟨hcs, _⟩ | ⟨x, l, c, zs, hcs, _, hl, hm, hz, _, hcell, hwz⟩
    · simp [Value.cells] at hcs
      obtain ⟨rfl, rfl, rfl⟩ := hcs
      exact ⟨[], .inl ⟨rfl, rfl, rfl, rfl⟩⟩
    · simp [Value.cells] at hcs
      obtain ⟨rfl, rfl, rfl⟩ := hcs
      exact ⟨zs, .inr ⟨_, rfl, hl, hm, by simpa using hz, hcell, hwz⟩⟩
  clear hA0 hval0
  refine (fnFlicker_walk a0 len0 cap0 z0 W w0).mono fun e W' ⟨he, bel⟩ => ?_
  subst he
  exact ⟨_, rfl, _, _, _, [], _, [], hW', trodAll_mk1 (shut_bool Try.underlying4 _), (trodAll_cons_mk (Below.trod laidOut (by kernel_rfl) (of_decide_eq_true (by kernel_rfl)) k0 bel lt0) trodAll_mk0), rfl, bel.frame _, fun h => by cases h⟩
theorem over : Rows.fnFlickerRow.holds Try.pinned (OpenSpec.ofChange Rows.fnFlickerSpec) :=
  OpenClaim.holds_of_wide 3 Try.f3 rfl rfl rfl rfl rfl rfl rfl ⟨rfl, rfl, rfl, rfl, rfl⟩ rfl rfl rfl rfl rfl (by kernel_rfl) Try.func3 (by kernel_rfl)
    (of_decide_eq_true (by kernel_rfl)) (by unfold Func.isWrapper; first | (rw [if_pos (by decide +kernel)]; kernel_rfl) | (rw [if_neg (by decide +kernel)]; exact ⟨rfl, rfl⟩))
    (fun os started H enc _ => lifted os started H enc)
theorem proved : Rows.FnFlickerSaid := over
end Go.Proofs.Ytpcmlfohblglaaa.fnFlicker
