/- The contract of the program's BrightestBars. -/
import Derived.Test.YtjcbffkdemadnaaDuty
import Derived.Test.YtjcbffkdemadnaaVain
import Derived.Lib.Hide
namespace Go.Proofs.Ytjcbffkdemadnaa
open Go.RowKit

/-- What BrightestBars tells. -/
def brN (k : Int) (l : List (Int × Int)) : Nat × Nat := if goodS k l = true then brS (dutN k.toNat l) (k.toNat * 7) else (0, 0)
def brB (k : Int) (l : List (Int × Int)) : Bool := decide (0 < (brN k l).1)
theorem brN_facts (k : Int) (l : List (Int × Int)) : (brN k l).1 ≤ l.length ∧ (brN k l).2 ≤ (brN k l).1 ∧ ((brN k l).1 = 0 ↔ (brN k l).2 = 0) := by
  unfold brN
  split
  · exact brS_inv l.length _ _ (fun z hz => dutN_le _ _ z hz)
  · exact ⟨Nat.zero_le _, Nat.le_refl _, by simp⟩
/-- The seven numbers of a row. -/
def sevA (D : List Nat) (x : Nat) : Array Value := #[.int .i64 (D.getD (x * 7) 0 : Nat), .int .i64 (D.getD (x * 7 + 1) 0 : Nat), .int .i64 (D.getD (x * 7 + 2) 0 : Nat), .int .i64 (D.getD (x * 7 + 3) 0 : Nat), .int .i64 (D.getD (x * 7 + 4) 0 : Nat), .int .i64 (D.getD (x * 7 + 5) 0 : Nat), .int .i64 (D.getD (x * 7 + 6) 0 : Nat)]
theorem sevA_at (D : List Nat) (x y : Nat) (hy : y < 7) : (sevA D x)[y]? = some (.int .i64 (D.getD (x * 7 + y) 0 : Nat)) := by
  unfold sevA
  match y, hy with
  | 0, _ => rfl
  | 1, _ => rfl
  | 2, _ => rfl
  | 3, _ => rfl
  | 4, _ => rfl
  | 5, _ => rfl
  | 6, _ => rfl
  | y + 7, h => omega
theorem maxI (m z : Nat) : (if m < z then (z : Int) else (m : Int)) = ((max m z : Nat) : Int) := by split <;> omega
theorem minI (f z : Nat) : (if z < f then (z : Int) else (f : Int)) = ((min f z : Nat) : Int) := by split <;> omega
theorem szInt7 (w : World) : (sizeOf 3).run Try.prog w = .ok 1 w := by kernel_rfl
theorem aggInt7 (w : World) : (isAgg 3).run Try.prog w = .ok false w := by kernel_rfl
theorem idxInt7 (cs : Array Value) (i : Nat) (h : i < 7) (v : Value) (hv : cs[i]? = some v) (w : World) : (Instr.index 66 (.agg cs) (.int .i64 (i : Int))).run Try.prog w = .ok v w := by
  have h1 : (i : Int) < 7 := by omega
  simp [Instr.index, asIntOf, run_underlying Try.underlying66, h1, part, szInt7, aggInt7, hv]
  intro hh; omega
set_option maxHeartbeats 1600000 in
set_option maxRecDepth 100000 in
theorem BrightestBarsI_any (k : Int) (ao : Option Addr) (n cap : Nat) (l : List (Int × Int)) (w : World) (hr : RdS w ao l) (hn : l.length = n) (hm : n ≤ 1048576) :
    Calls Try.prog 23 #[.int .i64 k, .slice ao n cap] w fun e w' => e = .returned (.tuple #[.int .i64 ((brN k l).1 : Nat), .int .i64 ((brN k l).2 : Nat), .bool (brB k l)]) ∧ Below w.heap.size w w' := by
  unfold brB brN
  have HG := Lib.hid (fun W h => isDriven_any k ao n cap l W h hn (by unfold maxLen; omega))
  cases hb : goodS k l with
  | false =>
    rw [hb] at HG
    go_enter Try.func23, Try.ntmps23
    go_wp2_with (go_at_call 31; refine (HG.out _ hr).mono ?_; rintro e w1 ⟨rfl, hb1⟩)
    go_ret3
    exact ⟨rfl, hb1⟩
  | true =>
    have hs := goodS_small hb
    obtain ⟨q, rfl, hq, hqn, h12⟩ := good_nat hb
    rw [hb] at HG
    simp only [if_true, hqn]
    have HV := Lib.hid (fun W h => duty_any q hq ao n cap l W h hn (by omega) hs)
    have HLD := Lib.hid (fun t => dutL_getD q l t)
    have hD12 : ∀ z ∈ dutN q l, z ≤ 12 := fun z hz => Nat.le_trans (dutN_le q l z hz) h12
    have hDl := dutN_length q l
    generalize dutL q l = DL at HV HLD
    generalize dutN q l = D at *
    have HD := Lib.hid (And.intro hD12 hDl)
    clear hs hb hqn hD12 hDl h12
    have hA1 := @cellAlloc; have hA2 := @frozenAlloc; have hA3 := @setCellAlloc; go_enter Try.func23, Try.ntmps23
    go_wp2_with (first | (go_at_call 31; refine (HG.out _ hr).mono ?_; rintro e w1 ⟨rfl, hb1⟩) | (go_at_call 47; refine (HV.out _ (RdS_below hr hb1)).mono ?_; rintro e w2 ⟨g, rfl, ho2, hb2⟩))
    have HO := Lib.hid ho2
    have hgl := (ownsD_at ho2 0 (by omega)).2.2.2
    have hbz := belowThen hb1 hb2
    clear ho2 hb1 hb2
    go_loopw [7, 8, 21] (fun m f i wr => ∃ x : Nat, x ≤ q ∧ i = .int .i64 x ∧ m = .int .i64 ((brS D (x * 7)).1 : Nat) ∧ f = .int .i64 (f13 (brS D (x * 7)).2 : Nat) ∧ Below w2.heap.size w2 wr) (fun _ _ i _ => q - (intOf i).toNat)
    case atStart => exact ⟨0, by omega, rfl, by rw [Nat.zero_mul, brS_zero]; rfl, by rw [Nat.zero_mul, brS_zero]; rfl, Below.refl _ _⟩
    case round =>
      obtain ⟨x, hx, rfl, rfl, rfl, hbw⟩ := hrel
      by_cases hlx : x < q
      · have hdx : decide ((x : Int) < (q : Int)) = true := by simp; omega
        have hcell : ∀ y, y < 7 → wr.cell? ⟨g, x * 7 + y, none⟩ = some (.int .i64 (D.getD (x * 7 + y) 0 : Nat)) := fun y hy => by
          have h1 := (ownsD_at HO.out (x * 7 + y) (by omega)).1
          rw [HLD.out] at h1
          exact (hbw.cell (p := ⟨g, x * 7 + y, none⟩) hgl).trans h1
        have c0 := hcell 0 (by omega)
        have c1 := hcell 1 (by omega)
        have c2 := hcell 2 (by omega)
        have c3 := hcell 3 (by omega)
        have c4 := hcell 4 (by omega)
        have c5 := hcell 5 (by omega)
        have c6 := hcell 6 (by omega)
        have hsev := sevA_at D x
        have hsv : sevA D x = #[.int .i64 (D.getD (x * 7 + 0) 0 : Nat), .int .i64 (D.getD (x * 7 + 1) 0 : Nat), .int .i64 (D.getD (x * 7 + 2) 0 : Nat), .int .i64 (D.getD (x * 7 + 3) 0 : Nat), .int .i64 (D.getD (x * 7 + 4) 0 : Nat), .int .i64 (D.getD (x * 7 + 5) 0 : Nat), .int .i64 (D.getD (x * 7 + 6) 0 : Nat)] := rfl
        obtain ⟨z0, e0⟩ : ∃ z, D.getD (x * 7 + 0) 0 = z := ⟨_, rfl⟩
        obtain ⟨z1, e1⟩ : ∃ z, D.getD (x * 7 + 1) 0 = z := ⟨_, rfl⟩
        obtain ⟨z2, e2⟩ : ∃ z, D.getD (x * 7 + 2) 0 = z := ⟨_, rfl⟩
        obtain ⟨z3, e3⟩ : ∃ z, D.getD (x * 7 + 3) 0 = z := ⟨_, rfl⟩
        obtain ⟨z4, e4⟩ : ∃ z, D.getD (x * 7 + 4) 0 = z := ⟨_, rfl⟩
        obtain ⟨z5, e5⟩ : ∃ z, D.getD (x * 7 + 5) 0 = z := ⟨_, rfl⟩
        obtain ⟨z6, e6⟩ : ∃ z, D.getD (x * 7 + 6) 0 = z := ⟨_, rfl⟩
        rw [e0] at c0; rw [e1] at c1; rw [e2] at c2; rw [e3] at c3; rw [e4] at c4; rw [e5] at c5; rw [e6] at c6
        rw [e0, e1, e2, e3, e4, e5, e6] at hsv
        rw [Nat.add_zero] at c0
        clear hcell e0 e1 e2 e3 e4 e5 e6
        go_wp2_with fail
        rw [← hsv]
        have hsz : (sevA D x).size = 7 := rfl
        generalize sevA D x = SV at *
        clear hsv c0 c1 c2 c3 c4 c5 c6
        obtain ⟨wo, hwo⟩ : ∃ wo : World, wo = wr := ⟨_, rfl⟩
        subst hwo
        go_loopw [7, 8, 26] (fun m f i wq => ∃ y : Nat, y ≤ 7 ∧ i = .int .i64 y ∧ m = .int .i64 ((brS D (x * 7 + y)).1 : Nat) ∧ f = .int .i64 (f13 (brS D (x * 7 + y)).2 : Nat) ∧ Below w2.heap.size w2 wq) (fun _ _ i _ => 7 - (intOf i).toNat)
        case atStart => exact ⟨0, by omega, rfl, rfl, rfl, belowThen hbw (Go.Joins.below_alloc1 _ _)⟩
        case round =>
          obtain ⟨y, hy, rfl, rfl, rfl, hby⟩ := hrel
          by_cases hly : y < 7
          · have hat := idxInt7 SV y hly _ (hsev y hly)
            have hd7 : decide ((y : Int) < 7) = true := by simp; omega
            have hsucc := brS_succ D (x * 7 + y) (by rw [HD.out.2]; omega)
            have hz12 : D.getD (x * 7 + y) 0 ≤ 12 := HD.out.1 _ (by rw [List.getD_eq_getElem?_getD, List.getElem?_eq_getElem (by rw [HD.out.2]; omega)]; exact List.getElem_mem _)
            have hinv := brS_inv 12 D (x * 7 + y) HD.out.1
            generalize D.getD (x * 7 + y) 0 = z at hat hsucc hz12
            by_cases h0 : 0 < z
            · obtain ⟨g1, g2⟩ := step13 (brS D (x * 7 + y)) z h0 hz12
              rw [← hsucc] at g1 g2
              have hm : ((brS D (x * 7 + (y + 1))).1 : Nat) = max (brS D (x * 7 + y)).1 z := by rw [show x * 7 + (y + 1) = x * 7 + y + 1 by omega, g1]
              have hf : f13 (brS D (x * 7 + (y + 1))).2 = min (f13 (brS D (x * 7 + y)).2) z := g2
              have hf13 : f13 (brS D (x * 7 + y)).2 ≤ 13 := by unfold f13; split <;> omega
              have HM := Lib.hid hm
              have HF := Lib.hid hf
              have hm12 := hinv.1
              generalize (brS D (x * 7 + y)).1 = m at *
              generalize f13 (brS D (x * 7 + y)).2 = f at *
              have hd0 : decide ((0 : Int) < (z : Int)) = true := by simp; omega
              clear g1 g2 hsucc hinv hm hf
              go_wp2
              go_roundw
              case rel => exact ⟨y + 1, by omega, by go_num, by rw [HM.out]; exact congrArg _ (maxI m z), by rw [HF.out]; exact congrArg _ (minI f z), hby⟩
              case measure => simp [intOf]; omega
            · have hsame : brS D (x * 7 + (y + 1)) = brS D (x * 7 + y) := by rw [show x * 7 + (y + 1) = x * 7 + y + 1 by omega, hsucc, stepS, if_neg h0]
              have HSM := Lib.hid hsame
              have hd0 : decide ((0 : Int) < (z : Int)) = false := by simp; omega
              clear hsucc hinv hsame
              go_wp2
              go_roundw
              case rel => exact ⟨y + 1, by omega, by go_num, by rw [HSM.out], by rw [HSM.out], hby⟩
              case measure => simp [intOf]; omega
          · have hy7 : y = 7 := by omega
            subst hy7
            rw [show x * 7 + 7 = (x + 1) * 7 by omega]
            have hd7 : decide (((7 : Nat) : Int) < 7) = false := by decide
            go_wp2
            go_roundw
            case rel => exact ⟨x + 1, by omega, by go_num, rfl, rfl, hby⟩
            case measure => simp [intOf]; omega
      · have hxq : x = q := by omega
        subst hxq
        have hinv := brS_inv 12 D (x * 7) HD.out.1
        have hbf := hbz.trans (hbw.mono hbz.size)
        have hdx : decide ((x : Int) < (x : Int)) = false := by simp
        by_cases h0 : (brS D (x * 7)).1 = 0
        · have h2 := hinv.2.2.1 h0
          have hbr : brS D (x * 7) = (0, 0) := Prod.ext h0 h2
          have HBR := Lib.hid hbr
          rw [hbr]
          clear hbr h0 h2 hinv
          go_wp2
          go_ret3
          rw [HBR.out]
          exact ⟨rfl, hbf⟩
        · have h2 : (brS D (x * 7)).2 ≠ 0 := fun h => h0 (hinv.2.2.2 h)
          have hf : f13 (brS D (x * 7)).2 = (brS D (x * 7)).2 := by unfold f13; rw [if_neg h2]
          rw [hf]
          obtain ⟨m, hmm⟩ : ∃ m, (brS D (x * 7)).1 = m := ⟨_, rfl⟩
          obtain ⟨f, hff⟩ : ∃ f, (brS D (x * 7)).2 = f := ⟨_, rfl⟩
          rw [hmm, hff]
          rw [hmm] at h0
          have hd0 : ((m : Int) == 0) = false := by rw [beq_eq_false_iff_ne]; omega
          have hd1 : decide (0 < m) = true := by simp; omega
          have HX := Lib.hid (And.intro hmm (And.intro hff hd1))
          clear hinv hf hmm hff hd1 h2
          go_wp2
          go_ret3
          rw [HX.out.1, HX.out.2.1, HX.out.2.2]
          exact ⟨rfl, hbf⟩
end Go.Proofs.Ytjcbffkdemadnaa
