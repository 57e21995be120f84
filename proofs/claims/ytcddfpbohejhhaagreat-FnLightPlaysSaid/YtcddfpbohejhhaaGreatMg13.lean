/- Joined texts: MovesI, WinMoves, Wins. -/
import Derived.Test.YtcddfpbohejhhaaGreatMg12
import Derived.Lib.Hide
import Derived.Test.YtcddfpbohejhhaaGreatMg11
namespace Go.Proofs.YtcddfpbohejhhaaGreat
open Go.RowKit

theorem runLookV (w : World) (t e : TypeId) (ht : Tryz.prog.underlying t = some (.map 3 e)) (z : Value) (hz : (zeroValue e).run Tryz.prog w = .ok z w) (b n : Nat) (f : Int → Value) (h : mapV w b n z f)
    (k : Int) (hwf : (Lit.int .i64 k).wf = true) : (Instr.lookup t (.map (some b)) (.int .i64 k) false).run Tryz.prog w = .ok (f k) w := by
  obtain ⟨D, h1, h2, h3⟩ := h
  obtain ⟨v, ps, hrun, hat⟩ := h1.lookup keyedInt ht hz (zd := .held z) (zp := []) rfl (Maps.keyOf_int_mk Tryz.underlying3 hwf)
  have hv : v = f k := by
    rw [h3 k] at hat
    simp only [asHeld, Option.some.injEq, Prod.mk.injEq, DataW.held.injEq] at hat
    exact hat.1
  subst hv
  exact hrun
theorem pairBox (w : World) (i j : Int) (t : TypeId) : (w.alloc (.cells #[.int .i64 i, .int .i64 j] t)).rowIs w.heap.size t 2 (fun k => if k = 0 then .int .i64 i else .int .i64 j) :=
  World.rowIs_alloc w #[.int .i64 i, .int .i64 j] t _ (fun k hk => by
    have hk : k < 2 := hk
    match k, hk with
    | 0, _ => rfl
    | 1, _ => rfl
    | n + 2, h => omega)
theorem own2_a {W W' : World} {B : Nat} {va vw va' : Value} {na nw na' : Nat} {Fa Fw Fa' : List Int} (h : own2 W B va na Fa vw nw Fw) (h1 : ownsPairs W' B va' na' Fa') (hsz : W.heap.size ≤ W'.heap.size)
    (hk : ∀ k, k < W.heap.size → va.ownBlock ≠ some k → W'.heap[k]? = W.heap[k]?) (hn : ∀ k, va'.ownBlock = some k → k < W'.heap.size ∧ (va.ownBlock = some k ∨ W.heap.size ≤ k)) : own2 W' B va' na' Fa' vw nw Fw := by
  obtain ⟨h2, h3, h4, h5⟩ := h
  refine ⟨h1, ownsPairs_keep h3 fun k hlt hb => hk k hlt fun hc => (h4 k hc).2 hb, fun k hb => ⟨(hn k hb).1, ?_⟩, fun k hb => by have := h5 k hb; omega⟩
  rcases (hn k hb).2 with hc | hc
  · exact (h4 k hc).2
  · intro hd
    have := h5 k hd
    omega
theorem own2_w {W W' : World} {B : Nat} {va vw vw' : Value} {na nw nw' : Nat} {Fa Fw Fw' : List Int} (h : own2 W B va na Fa vw nw Fw) (h1 : ownsPairs W' B vw' nw' Fw') (hsz : W.heap.size ≤ W'.heap.size)
    (hk : ∀ k, k < W.heap.size → vw.ownBlock ≠ some k → W'.heap[k]? = W.heap[k]?) (hn : ∀ k, vw'.ownBlock = some k → k < W'.heap.size ∧ (vw.ownBlock = some k ∨ W.heap.size ≤ k)) : own2 W' B va na Fa vw' nw' Fw' := by
  obtain ⟨h2, h3, h4, h5⟩ := h
  refine ⟨ownsPairs_keep h2 fun k hlt hb => hk k hlt (h4 k hb).2, h1, fun k hb => ⟨by have := (h4 k hb).1; omega, fun hc => ?_⟩, fun k hb => (hn k hb).1⟩
  have h6 := h4 k hb
  rcases (hn k hc).2 with hd | hd
  · exact h6.2 hd
  · omega
set_option maxHeartbeats 3200000 in
set_option maxRecDepth 100000 in
theorem moves_any (ao : Option Addr) (n cap : Nat) (R : List Int) (bo : Option Addr) (m capL : Nat) (L : List Int) (b nn : Nat) (w : World) (hr : RdI w ao R) (hn : R.length = n) (hm : n ≤ 6) (hR : ∀ x ∈ R, inB 0 127 x = true ∧ wayB x L = true) (hrL : RdI w bo L) (hnL : L.length = m) (hmL : m ≤ maxLen) (hD : allDig L) (hmap : mapV w b nn (.int .i64 0) (tabF L)) :
    Calls Tryz.prog 55 #[.slice ao n cap, .slice bo m capL, .map (some b)] w fun e w' => ∃ aa ca ab cb, e = .returned (.tuple #[.slice aa (movN R L false (n * 7)) ca, .slice ab (movN R L true (n * 7)) cb]) ∧
      ownsPairs w' w.heap.size (.slice aa (movN R L false (n * 7)) ca) (movN R L false (n * 7)) (movF R L false (n * 7)) ∧ ownsPairs w' w.heap.size (.slice ab (movN R L true (n * 7)) cb) (movN R L true (n * 7)) (movF R L true (n * 7)) ∧ Below w.heap.size w w' := by
  have HN := Lib.hid hn
  have HNL := Lib.hid hnL
  have HD := Lib.hid hD
  have HR := Lib.hid hR
  have HS := Lib.hid (nim_any ao n cap R L b nn w hr hn (by unfold maxLen; omega) hR hmap)
  have hnim : nimN L R < 8 := nimP_lt L R (fun x hx => (hR x hx).1) _
  generalize hsx : nimN L R = s at HS hnim
  have HSX := Lib.hid hsx
  clear hn hnL hD hR hsx
  have hA1 := @cellAlloc; have hA2 := @frozenAlloc; have hA3 := @setCellAlloc; go_enter Tryz.func55, Tryz.ntmps55
  go_wp2_with (first | (go_at_call 58; refine HS.out.mono ?_; rintro e w' ⟨rfl, rfl⟩))
  go_loopw [8, 9, 20] (fun va vw i wr => ∃ k : Nat, k ≤ n ∧ i = .int .i64 k ∧ own2 wr w.heap.size va (movN R L false (k * 7)) (movF R L false (k * 7)) vw (movN R L true (k * 7)) (movF R L true (k * 7)) ∧ Below w.heap.size w wr) (fun _ _ i _ => n - (intOf i).toNat)
  case atStart => exact ⟨0, by omega, rfl, own2_nil _ _, Below.refl _ _⟩
  case round =>
    obtain ⟨k, hk, rfl, hown, hbw⟩ := hrel
    by_cases hlt : k < n
    · have hd : decide ((k : Int) < (n : Int)) = true := by simp; omega
      rcases RdI_below hr hbw with h | ⟨b1, o1, rfl, hb1, hc1⟩
      · have := HN.out; rw [h] at this; simp at this; omega
      have hx := hc1 k (by rw [HN.out]; omega)
      have hin := HR.out _ (memGetD (show k < R.length by rw [HN.out]; omega))
      have hq0 : ∀ wins j, movQ R L wins k j = (nextB L (R.getD k 0).toNat j && (!wins || (nimN L R ^^^ numC L (R.getD k 0) ^^^ numC L (((R.getD k 0).toNat ||| 2 ^ j : Nat) : Int) == 0))) := fun _ _ => rfl
      rw [HSX.out] at hq0
      have hn8 := numC_lt L _ hin.1
      have hfC := tabF_at hin.1 hin.2
      generalize R.getD k 0 = y at hx hin hq0 hn8 hfC
      have hin1 := hin.1
      rw [inB_iff] at hin1
      obtain ⟨C, rfl⟩ := Int.eq_ofNat_of_zero_le hin1.1
      have hC : C < 128 := by omega
      rw [Int.toNat_natCast] at hq0
      have HQ0 := Lib.hid hq0
      have HFC := Lib.hid hfC
      clear hq0 hfC hc1 hin hin1
      generalize numC L (C : Int) = a at hn8 HQ0 HFC
      go_wp2_with fail
      obtain ⟨wo, hwo⟩ : ∃ wo : World, wo = wr := ⟨_, rfl⟩
      subst hwo
      go_loopw [8, 9, 25] (fun va vw i wr => ∃ j : Nat, j ≤ 7 ∧ i = .int .i64 j ∧ own2 wr w.heap.size va (movN R L false (k * 7 + j)) (movF R L false (k * 7 + j)) vw (movN R L true (k * 7 + j)) (movF R L true (k * 7 + j)) ∧ Below w.heap.size w wr) (fun _ _ i _ => 7 - (intOf i).toNat)
      case atStart => exact ⟨0, by omega, rfl, hown, hbw⟩
      case round =>
        obtain ⟨j, hj, rfl, hown2, hbw2⟩ := hrel
        clear hown hbw
        by_cases hlj : j < 7
        · have hFa := movF_succ R L false k j hlj
          have hNa := movN_succ R L false k j hlj
          have hFw := movF_succ R L true k j hlj
          have hNw := movN_succ R L true k j hlj
          have hNale := movN_le R L false (k * 7 + j)
          have hNwle := movN_le R L true (k * 7 + j)
          have hqa := HQ0.out false j
          have hqw := HQ0.out true j
          rw [Bool.not_false, Bool.true_or, Bool.and_true] at hqa
          rw [Bool.not_true, Bool.false_or] at hqw
          generalize movF R L false (k * 7 + j) = Fa at hFa hown2
          generalize movN R L false (k * 7 + j) = Na at hNa hNale hown2
          generalize movF R L true (k * 7 + j) = Fw at hFw hown2
          generalize movN R L true (k * 7 + j) = Nw at hNw hNwle hown2
          have HX := Lib.hid (fun W h => lightable_any C hC bo m capL L W h HNL.out hmL HD.out)
          have hMlt := lightM_lt L C
          have hbit := bit_fact (lightM L C) j (by omega)
          have hmb := maskP_bit (nextB L C) j hlj
          have hup := fun h => way_next (L := L) (c := C) (b := j) h
          have hl := lor_lt C j hC hlj
          have hs := shl_fact j hlj
          have hp := pow_lt j hlj
          have hor := or64 C (2 ^ j) (by omega) (by omega)
          change (lightM L C / 2 ^ j % 2 == 1) = nextB L C j at hmb
          generalize lightM L C = M at HX hMlt hbit hmb
          generalize C ||| 2 ^ j = x at hqw hl hor hup
          generalize (2 ^ j : Nat) = mm at hs hp hor hbit hmb
          have hbb : M / mm % 2 < 2 := Nat.mod_lt _ (by decide)
          generalize M / mm % 2 = bb at hbit hmb hbb
          have hmapr := mapV_below hmap hbw2
          generalize nextB L C j = q at hqa hqw hmb hup
          rw [hqa] at hFa hNa
          rcases q with _ | _
          · have hb0 : bb = 0 := by
              have : bb ≠ 1 := by simpa using hmb
              omega
            subst hb0
            rw [Bool.false_and] at hqw
            rw [hqw] at hFw hNw
            have HFa := Lib.hid hFa
            have HNa := Lib.hid hNa
            have HFw := Lib.hid hFw
            have HNw := Lib.hid hNw
            clear hFa hNa hFw hNw hqa hqw hmb hup
            go_wp2_with (first | (go_at_call 90; refine (HX.out _ (RdI_below hrL hbw2)).mono ?_; rintro e w2 ⟨rfl, hb2⟩))
            go_roundw
            case rel => exact ⟨j + 1, by omega, by go_num, by rw [← Nat.add_assoc, HFa.out, HNa.out, HFw.out, HNw.out]; exact own2_below hown2 hb2, belowThen hbw2 hb2⟩
            case measure => simp [intOf]; omega
          · have hb0 : bb = 1 := by simpa using hmb
            subst hb0
            rw [Bool.true_and] at hqw
            rw [if_pos rfl] at hFa hNa
            have hup2 := hup rfl
            have hz8 := numC_lt L (x : Int) (by rw [inB_iff]; omega)
            have hfx := tabF_at (L := L) (c := (x : Int)) (by rw [inB_iff]; omega) hup2
            have hL1 : ∀ W, Below w.heap.size w W → (Instr.lookup 61 (.map (some b)) (.int .i64 C) false).run Tryz.prog W = .ok (.int .i64 a) W := fun W hB => by
              rw [← HFC.out]; exact runLookV W _ _ Tryz.underlying61 (.int .i64 0) (by rfl) b nn (tabF L) (mapV_below hmap hB) C (wf128 C hC)
            have hL2 : ∀ W, Below w.heap.size w W → (Instr.lookup 61 (.map (some b)) (.int .i64 x) false).run Tryz.prog W = .ok (.int .i64 (numC L (x : Int))) W := fun W hB => by
              rw [← hfx]; exact runLookV W _ _ Tryz.underlying61 (.int .i64 0) (by rfl) b nn (tabF L) (mapV_below hmap hB) x (wf128 x hl)
            generalize numC L (x : Int) = z at hqw hz8 hfx hL2
            have hxx1 := xor64 s a (by omega) (by omega)
            have hsa : s ^^^ a < 8 := Nat.xor_lt_two_pow (n := 3) hnim hn8
            generalize s ^^^ a = sa at hxx1 hsa hqw
            have hxx2 := xor64 sa z (by omega) (by omega)
            have hbz := bne0 (sa ^^^ z)
            generalize sa ^^^ z = zz at hxx2 hqw hbz
            generalize (zz == 0) = t at hqw hbz
            have HBZ := Lib.hid hbz
            clear hbz
            rw [hqw] at hFw hNw
            have HL1 := Lib.hid hL1
            have HL2 := Lib.hid hL2
            have HFa := Lib.hid hFa
            have HNa := Lib.hid hNa
            have HFw := Lib.hid hFw
            have HNw := Lib.hid hNw
            clear hFa hNa hFw hNw hqa hqw hmb hup hup2 hfx hL1 hL2 hmapr
            rcases t with _ | _
            · go_wp2_with (first | (go_at_call 90; refine (HX.out _ (RdI_below hrL hbw2)).mono ?_; rintro e w2 ⟨rfl, hb2⟩) | (at_builtin; go_must (refine wpAppendPair2 (w2.alloc (.cells #[.int .i64 k, .int .i64 j] 65)) (by rfl) _ _ (by rfl) w.heap.size _ Na Fa (by rfl) (own2_below (own2_below hown2 hb2) (Go.Joins.below_alloc1 _ _)).1 _ _ 65 (by rw [heapAlloc]; rfl) (by omega) (by have := hbw2.size; have := hb2.size; simp; omega) ?_; intro aa ca w5 hown5 hb5 hkeep5 hnew5)))
              have hbw5 : Below w.heap.size w w5 := ((belowThen hbw2 hb2).trans ((Go.Joins.below_alloc1 w2 _).mono (by have := hbw2.size; have := hb2.size; omega))).trans hb5
              have hO5 := own2_a (own2_below (own2_below hown2 hb2) (Go.Joins.below_alloc1 _ _)) hown5 hb5.size hkeep5 hnew5
              have hbox := (pairBox w2 k j 65).of_block (hkeep5 w2.heap.size (by simp) (fun hc => by have := (hown2.2.2.1 _ hc).1; have := hb2.size; omega))
              have c0 := hbox.cell (i := 0) (by omega)
              have c1 := hbox.cell (i := 1) (by omega)
              rw [if_pos rfl] at c0
              rw [if_neg (by decide)] at c1
              have L1 : ∀ n, (Instr.lookup 61 (.map (some b)) (.int .i64 C) false).run Tryz.prog (w5.drewN n) = .ok (.int .i64 a) (w5.drewN n) := fun n => HL1.out _ (Bdr hbw5 n)
              have L2 : ∀ n, (Instr.lookup 61 (.map (some b)) (.int .i64 x) false).run Tryz.prog (w5.drewN n) = .ok (.int .i64 z) (w5.drewN n) := fun n => HL2.out _ (Bdr hbw5 n)
              clear hown2 hown5 hkeep5 hnew5 hb5 hbox
              have hbz := HBZ.out
              go_quiet (fail)
              go_wp2
              go_roundw
              case rel => exact ⟨j + 1, by omega, by go_num, by rw [← Nat.add_assoc, HFa.out, HNa.out, HFw.out, HNw.out]; exact own2_below hO5 (Go.Joins.below_draws _ _ _), Bdr hbw5 _⟩
              case measure => simp [intOf]; omega
            · go_wp2_with (first | (go_at_call 90; refine (HX.out _ (RdI_below hrL hbw2)).mono ?_; rintro e w2 ⟨rfl, hb2⟩) | (at_builtin; go_must (refine wpAppendPair2 (w2.alloc (.cells #[.int .i64 k, .int .i64 j] 65)) (by rfl) _ _ (by rfl) w.heap.size _ Na Fa (by rfl) (own2_below (own2_below hown2 hb2) (Go.Joins.below_alloc1 _ _)).1 _ _ 65 (by rw [heapAlloc]; rfl) (by omega) (by have := hbw2.size; have := hb2.size; simp; omega) ?_; intro aa ca w5 hown5 hb5 hkeep5 hnew5)))
              have hbw5 : Below w.heap.size w w5 := ((belowThen hbw2 hb2).trans ((Go.Joins.below_alloc1 w2 _).mono (by have := hbw2.size; have := hb2.size; omega))).trans hb5
              have hO5 := own2_a (own2_below (own2_below hown2 hb2) (Go.Joins.below_alloc1 _ _)) hown5 hb5.size hkeep5 hnew5
              have hbox := (pairBox w2 k j 65).of_block (hkeep5 w2.heap.size (by simp) (fun hc => by have := (hown2.2.2.1 _ hc).1; have := hb2.size; omega))
              have c0 := hbox.cell (i := 0) (by omega)
              have c1 := hbox.cell (i := 1) (by omega)
              rw [if_pos rfl] at c0
              rw [if_neg (by decide)] at c1
              have L1 : ∀ n, (Instr.lookup 61 (.map (some b)) (.int .i64 C) false).run Tryz.prog (w5.drewN n) = .ok (.int .i64 a) (w5.drewN n) := fun n => HL1.out _ (Bdr hbw5 n)
              have L2 : ∀ n, (Instr.lookup 61 (.map (some b)) (.int .i64 x) false).run Tryz.prog (w5.drewN n) = .ok (.int .i64 z) (w5.drewN n) := fun n => HL2.out _ (Bdr hbw5 n)
              clear hown2 hown5 hkeep5 hnew5 hb5 hbox
              have hbz := HBZ.out
              go_quiet (fail)
              have hW5 := fun n => (own2_below hO5 (Go.Joins.below_draws w5.heap.size w5 n)).2.1
              go_wp2_with (first | (at_builtin; go_must (refine wpAppendPair2 (w5.drewN _) (by rfl) _ _ (by rfl) w.heap.size _ Nw Fw (by rfl) (hW5 _) _ _ 65 (by rfl) (by omega) (Bdr hbw5 _).size ?_; intro ab cb w6 hown6 hb6 hkeep6 hnew6)))
              have hO6 := own2_w (own2_below hO5 (Go.Joins.below_draws _ _ _)) hown6 hb6.size hkeep6 hnew6
              go_roundw
              case rel => exact ⟨j + 1, by omega, by go_num, by rw [← Nat.add_assoc, HFa.out, HNa.out, HFw.out, HNw.out]; exact hO6, (Bdr hbw5 _).trans hb6⟩
              case measure => simp [intOf]; omega
        · have hj7 : j = 7 := by omega
          subst hj7
          go_wp2
          go_roundw
          case rel => exact ⟨k + 1, by omega, by go_num, by rw [show (k + 1) * 7 = k * 7 + 7 by omega]; exact hown2, hbw2⟩
          case measure => simp [intOf]; omega
    · have hkn : k = n := by omega
      subst hkn
      obtain ⟨aa, ca, rfl, -⟩ := ownsPairs_shape hown.1
      obtain ⟨ab, cb, rfl, -⟩ := ownsPairs_shape hown.2.1
      go_wp2
      go_ret2
      exact ⟨aa, ca, ab, cb, rfl, hown.1, hown.2.1, hbw⟩
end Go.Proofs.YtcddfpbohejhhaaGreat

namespace Go.Proofs.YtcddfpbohejhhaaGreat
open Go.RowKit

def winN (R L : List Int) (m : Nat) : Nat := if goodRow R L m = true then movN R L true (R.length * 7) else 0
def winF (R L : List Int) (m : Nat) : List Int := if goodRow R L m = true then movF R L true (R.length * 7) else []
theorem winF_len (R L : List Int) (m : Nat) : (winF R L m).length = winN R L m * 2 := by
  unfold winF winN; split
  · exact movF_len _ _ _ _
  · rfl
theorem winN_le (R L : List Int) (m : Nat) : winN R L m ≤ 42 := by
  unfold winN; split
  · rename_i h
    have h1 := movN_le R L true (R.length * 7)
    have h2 := rowB_len (goodRow_row h)
    omega
  · omega
/-- A slice of pairs of the call's own, and a bool, are returned. -/
def RetPairsB (n : Nat) (F : List Int) (ok : Bool) (w : World) (e : Ending) (w' : World) : Prop := ∃ ao cap, e = .returned (.tuple #[.slice ao n cap, .bool ok]) ∧ ownsPairs w' w.heap.size (.slice ao n cap) n F ∧ Below w.heap.size w w'
end Go.Proofs.YtcddfpbohejhhaaGreat

namespace Go.Proofs.YtcddfpbohejhhaaGreat
open Go.RowKit

/-- Who is to light a bar wins. -/
def winB (R L : List Int) (m : Nat) : Bool := goodRow R L m && (((nimN L R : Nat) : Int) != 0)
set_option maxHeartbeats 400000 in
theorem LightWinsI_any (ao : Option Addr) (n cap : Nat) (R : List Int) (bo : Option Addr) (m capL : Nat) (L : List Int) (w : World) (hr : RdI w ao R) (hn : R.length = n) (hm : n ≤ maxLen) (hcap : n ≤ cap) (hrL : RdI w bo L) (hnL : L.length = m) (hmL : m ≤ maxLen) (hcapL : m ≤ capL) :
    Calls Tryz.prog 23 #[.slice ao n cap, .slice bo m capL] w fun e w' => e = .returned (.tuple #[.bool (winB R L m), .bool (goodRow R L m)]) ∧ Below w.heap.size w w' := by
  unfold winB
  have HG := Lib.hid (isPlayableRow_any ao n cap R bo m capL L w hr hn hm hcap hrL hnL hmL hcapL)
  have hdig := goodRow_dig (R := R) (L := L) (m := m)
  have hmem := goodRow_mem (R := R) (L := L) (m := m)
  have HN := Lib.hid hn
  have HNL := Lib.hid hnL
  generalize goodRow R L m = q at HG hdig hmem ⊢
  clear hn hnL
  rcases q with _ | _
  · clear hdig hmem
    go_enter Tryz.func23, Tryz.ntmps23
    go_wp2_with (first | (go_at_call 51; refine HG.out.mono ?_; rintro e w1 ⟨rfl, hb1⟩))
    go_ret2
    exact ⟨rfl, hb1⟩
  · have HT := Lib.hid (fun W h => tableI_any mexI 53 bo m capL L W h HNL.out hmL (hdig rfl) enters_least (fun c vs bo cb W _ hl hv _ => (leastAbsent_any c bo vs.length cb vs W (RdI_of_V hv) rfl (by omega)).mono fun e w' h => ⟨h.1, by rw [← h.2]; exact Below.refl _ _⟩))
    have HM := Lib.hid (hmem rfl)
    have HS := Lib.hid (fun b W h hmap => nim_any ao n cap R L b 128 W h HN.out hm HM.out hmap)
    generalize nimN L R = s at HS ⊢
    clear hdig hmem
    go_enter Tryz.func23, Tryz.ntmps23
    go_wp2_with (first | (go_at_call 51; refine HG.out.mono ?_; rintro e w1 ⟨rfl, hb1⟩) | (go_at_call 52; refine (HT.out _ (RdI_below hrL hb1)).mono ?_; rintro e w2 ⟨rfl, hmap, hb2⟩) | (go_at_call 58; refine (HS.out _ _ (RdI_below (RdI_below hr hb1) hb2) hmap).mono ?_; rintro e w' ⟨rfl, rfl⟩))
    go_ret2
    exact ⟨rfl, belowThen hb1 hb2⟩
end Go.Proofs.YtcddfpbohejhhaaGreat
