/- Joined texts: EqA, Pairs, Moves. -/
import Derived.Test.YtcddfpbohejhhaaGreatMg01
import Derived.Lib.Hide
import Derived.Deep.QuietTactic
import Derived.BigQuiet
import Derived.Test.YtcddfpbohejhhaaGreatMg11
import Derived.Deep.RegionHeld3
namespace Go.Proofs.YtcddfpbohejhhaaGreat
open Go.RowKit
end Go.Proofs.YtcddfpbohejhhaaGreat

namespace Go.Proofs.YtcddfpbohejhhaaGreat
open Go.RowKit

theorem infoPair : (Tryz.prog.info? 65).map (fun i => (i.zero, i.size, i.bytes)) = some (some (.agg #[.int .i64 0, .int .i64 0]), 2, 16) := by kernel_rfl
/-- The slice value v owns a row of n pairs, the numbers F one behind the other. -/
def ownsPairs (w : World) (B : Nat) (v : Value) (n : Nat) (F : List Int) : Prop := ownsG w B 65 2 v n (F.map (Value.int .i64))
theorem ownsPairs_nil (w : World) (B : Nat) : ownsPairs w B (.slice none 0 0) 0 [] := .inl (World.ownsRow_nil w B _ _)
theorem ownsPairs_zero (w : World) (B : Nat) (a : Addr) : ownsPairs w B (.slice (some a) 0 0) 0 [] := .inr ⟨rfl, rfl, a, rfl⟩
theorem ownsPairs_len {w : World} {B : Nat} {v : Value} {n : Nat} {F : List Int} (h : ownsPairs w B v n F) : F.length = n * 2 := by have := ownsG_len h; simpa using this
theorem ownsPairs_below {w w' : World} {B C : Nat} {v : Value} {n : Nat} {F : List Int} (h : ownsPairs w B v n F) (hb : Below w.heap.size w w') (hC : C ≤ B) : ownsPairs w' C v n F := ownsG_below h hb hC
theorem ownsPairs_shape {w : World} {B : Nat} {v : Value} {n : Nat} {F : List Int} (h : ownsPairs w B v n F) : ∃ ao cap, v = .slice ao n cap ∧
    (n = 0 ∨ ∃ g, ao = some ⟨g, 0, none⟩ ∧ B ≤ g ∧ g < w.heap.size ∧ n ≤ cap ∧ (∀ j, j < n * 2 → w.cell? ⟨g, j, none⟩ = some (.int .i64 (F.getD j 0))) ∧ ∀ j, w.frozen? ⟨g, j, none⟩ = false) := by
  have hl := ownsPairs_len h
  obtain ⟨ao, cap, rfl, ⟨hn, _⟩ | ⟨g, rfl, hb, hg, hc, hcell, hf, _⟩⟩ := ownsG_shape h
  · exact ⟨ao, cap, rfl, .inl hn⟩
  · refine ⟨_, cap, rfl, .inr ⟨g, rfl, hb, hg, hc, fun j hj => ?_, hf⟩⟩
    rw [hcell j hj]
    simp [show j < F.length by omega]
theorem RdI_pairs {w : World} {B : Nat} {ao : Option Addr} {n cap : Nat} {F : List Int} (h : ownsPairs w B (.slice ao n cap) n F) : RdI w ao F := by
  have hl := ownsPairs_len h
  obtain ⟨ao', cap', he, h0 | ⟨g, rfl, _, hlt, _, hc, _⟩⟩ := ownsPairs_shape h
  · subst h0; exact .inl (List.eq_nil_of_length_eq_zero (by omega))
  · simp only [Value.slice.injEq] at he
    obtain ⟨rfl, _, _⟩ := he
    exact .inr ⟨g, 0, rfl, hlt, fun j hj => by simpa using hc j (by omega)⟩
theorem ownsPairs_set {w : World} {B g n cap : Nat} {F : List Int} (h : ownsPairs w B (.slice (some ⟨g, 0, none⟩) n cap) n F) (j : Nat) (z : Int) :
    ownsPairs (w.setCell ⟨g, j, none⟩ (.int .i64 z)) B (.slice (some ⟨g, 0, none⟩) n cap) n (F.set j z) := by
  rcases h with h | ⟨h0, h1, a, h2⟩
  · have := (World.ownsRow.stored h j (.int .i64 z)).1
    refine .inl ?_
    simpa [List.map_set] using this
  · have : F = [] := List.map_eq_nil_iff.1 h1
    subst this
    exact .inr ⟨h0, rfl, a, h2⟩
/-- append of one pair to a slice of the call's own. -/
theorem wpAppendPair {ops : Array Oper} {rest : List Oper} {o : Oper} {a : Act} {Q : Exit → Act → World → Prop} (w : World) (hgd : o.guard = none) (s x : Operand)
    (ho : o.op = .call { callee := .builtin .append, args := #[s, x], argTypes := #[36, 36] })
    (B : Nat) (v : Value) (n : Nat) (F : List Int) (hs : a.eval s = v) (hown : ownsPairs w B v n F) (z1 z2 : Int) (t' : TypeId) (hx : a.eval x = .slice (some ⟨w.heap.size, 0, none⟩) 1 1)
    (hn : n ≤ 1000000000) (hB : B ≤ w.heap.size)
    (h : ∀ ao cap w', ownsPairs w' B (.slice ao (n + 1) cap) (n + 1) (F ++ [z1, z2]) → Below B w w' → wpList Tryz.prog ops Q rest (a.put o.dst (.slice ao (n + 1) cap)) w') :
    wpList Tryz.prog ops Q (o :: rest) a (w.alloc (.cells #[.int .i64 z1, .int .i64 z2] t')) :=
  wpAppendG w hgd s x _ _ (.agg #[.int .i64 0, .int .i64 0]) 2 16 ho Tryz.underlying36 infoPair rfl (by decide) (by decide) B v n _ hs hown [.int .i64 z1, .int .i64 z2] _ hx rfl (by simp [Value.oneCell']) hn hB
    fun ao cap w' h2 hb _ => h ao cap w' (by unfold ownsPairs; simpa using h2) hb

theorem keep4 {wr W w2 : World} {b1 o1 b2 o2 : Nat} {x1 y1 x2 y2 : Option Value} (hB1 : b1 < wr.heap.size) (hB2 : b2 < wr.heap.size)
    (h : W.cell? ⟨b1, o1, none⟩ = x1 ∧ W.cell? ⟨b1, o1 + 1, none⟩ = y1 ∧ W.cell? ⟨b2, o2, none⟩ = x2 ∧ W.cell? ⟨b2, o2 + 1, none⟩ = y2 ∧ Below wr.heap.size wr W) (hb : Below W.heap.size W w2) :
    w2.cell? ⟨b1, o1, none⟩ = x1 ∧ w2.cell? ⟨b1, o1 + 1, none⟩ = y1 ∧ w2.cell? ⟨b2, o2, none⟩ = x2 ∧ w2.cell? ⟨b2, o2 + 1, none⟩ = y2 ∧ Below wr.heap.size wr w2 := by
  have hs := h.2.2.2.2.size
  have k1 : b1 < W.heap.size := by omega
  have k2 : b2 < W.heap.size := by omega
  exact ⟨(hb.cell (p := ⟨b1, o1, none⟩) k1).trans h.1, (hb.cell (p := ⟨b1, o1 + 1, none⟩) k1).trans h.2.1, (hb.cell (p := ⟨b2, o2, none⟩) k2).trans h.2.2.1, (hb.cell (p := ⟨b2, o2 + 1, none⟩) k2).trans h.2.2.2.1, belowThen h.2.2.2.2 hb⟩
end Go.Proofs.YtcddfpbohejhhaaGreat

namespace Go.Proofs.YtcddfpbohejhhaaGreat
open Go.RowKit

/-- The bar can be lit in the cell i; it wins, if that is asked for. -/
def movQ (R L : List Int) (wins : Bool) (i bar : Nat) : Bool := nextB L (R.getD i 0).toNat bar && (!wins || (nimN L R ^^^ numC L (R.getD i 0) ^^^ numC L (((R.getD i 0).toNat ||| 2 ^ bar : Nat) : Int) == 0))
/-- The moves of the first m places (seven a cell), one behind the other. -/
def movF (R L : List Int) (wins : Bool) : Nat → List Int
  | 0 => []
  | m + 1 => if movQ R L wins (m / 7) (m % 7) = true then movF R L wins m ++ [((m / 7 : Nat) : Int), ((m % 7 : Nat) : Int)] else movF R L wins m
def movN (R L : List Int) (wins : Bool) : Nat → Nat
  | 0 => 0
  | m + 1 => if movQ R L wins (m / 7) (m % 7) = true then movN R L wins m + 1 else movN R L wins m
theorem movF_succ (R L : List Int) (wins : Bool) (i b : Nat) (hb : b < 7) : movF R L wins (i * 7 + b + 1) = if movQ R L wins i b = true then movF R L wins (i * 7 + b) ++ [(i : Int), (b : Int)] else movF R L wins (i * 7 + b) := by
  show (if movQ R L wins ((i * 7 + b) / 7) ((i * 7 + b) % 7) = true then _ else _) = _
  rw [show (i * 7 + b) / 7 = i by omega, show (i * 7 + b) % 7 = b by omega]
theorem movN_succ (R L : List Int) (wins : Bool) (i b : Nat) (hb : b < 7) : movN R L wins (i * 7 + b + 1) = if movQ R L wins i b = true then movN R L wins (i * 7 + b) + 1 else movN R L wins (i * 7 + b) := by
  show (if movQ R L wins ((i * 7 + b) / 7) ((i * 7 + b) % 7) = true then _ else _) = _
  rw [show (i * 7 + b) / 7 = i by omega, show (i * 7 + b) % 7 = b by omega]
theorem movN_le (R L : List Int) (wins : Bool) (m : Nat) : movN R L wins m ≤ m := by
  induction m with
  | zero => exact Nat.le_refl _
  | succ m ih => unfold movN; split <;> omega
theorem movF_len (R L : List Int) (wins : Bool) (m : Nat) : (movF R L wins m).length = movN R L wins m * 2 := by
  induction m with
  | zero => rfl
  | succ m ih =>
    unfold movF movN
    split
    · rw [List.length_append, ih]; simp; omega
    · exact ih
/-- A slice of pairs of the call's own is returned. -/
def RetPairs (n : Nat) (F : List Int) (w : World) (e : Ending) (w' : World) : Prop := ∃ ao cap, e = .returned (.slice ao n cap) ∧ ownsPairs w' w.heap.size (.slice ao n cap) n F ∧ Below w.heap.size w w'
theorem xor3 (a b c : Nat) (ha : a < 8) (hb : b < 8) (hc : c < 8) : bits .xor .i64 (bits .xor .i64 (a : Int) (b : Int)) (c : Int) = ((a ^^^ b ^^^ c : Nat) : Int) := by
  have h : a ^^^ b < 8 := Nat.xor_lt_two_pow (n := 3) ha hb
  rw [xor64 a b (by omega) (by omega), xor64 _ c (by omega) (by omega)]
theorem way_next {L : List Int} {c b : Nat} (h : nextB L c b = true) : wayB ((c ||| 2 ^ b : Nat) : Int) L = true := by
  unfold nextB at h
  simp only [Bool.and_eq_true] at h
  exact h.2
theorem bne0 (a : Nat) : (((a : Nat) : Int) == 0) = (a == 0) := by rw [Bool.eq_iff_iff]; simp only [beq_iff_eq]; omega
theorem Bdr {B : Nat} {w a : World} (h : Below B w a) (n : Nat) : Below B w (a.drewN n) := h.trans (Go.Joins.below_draws _ _ _)
set_option maxHeartbeats 1600000 in
theorem l11Moves_any (ao : Option Addr) (n cap : Nat) (R : List Int) (bo : Option Addr) (m capL : Nat) (L : List Int) (g : Nat) (wins : Bool) (w : World) (hr : RdI w ao R) (hn : R.length = n) (hm : n ≤ 6) (hR : ∀ x ∈ R, inB 0 127 x = true) (hrL : RdI w bo L) (hnL : L.length = m) (hmL : m ≤ maxLen) (hD : allDig L) (hall : AllOwn w g L) :
    Calls Tryz.prog 34 #[.slice ao n cap, .slice bo m capL, .slice (some ⟨g, 0, none⟩) 128 128, .bool wins] w (RetPairs (movN R L wins (n * 7)) (movF R L wins (n * 7)) w) := by
  have HN := Lib.hid hn
  have HNL := Lib.hid hnL
  have HD := Lib.hid hD
  have HR := Lib.hid hR
  have HS := Lib.hid (fun W h hall => l11Sum_any ao n cap R L g W h hn (by unfold maxLen; omega) hR hall)
  have hnim : nimN L R < 8 := nimP_lt L R hR _
  generalize hsx : nimN L R = s at HS hnim
  have HSX := Lib.hid hsx
  clear hn hnL hD hR hsx
  have hA1 := @cellAlloc; have hA2 := @frozenAlloc; have hA3 := @setCellAlloc; go_enter Tryz.func34, Tryz.ntmps34
  go_wp2_with (first | (go_at_call 72; refine (HS.out _ (by first | exact hr | exact RdI_below hr (Go.Joins.below_alloc1 _ _)) (by first | exact hall | exact AllOwn_below hall (Go.Joins.below_alloc1 _ _))).mono ?_; rintro e w' ⟨rfl, rfl⟩))
  go_loopw [9, 11] (fun v i wr => ∃ k : Nat, k ≤ n ∧ i = .int .i64 k ∧ ownsPairs wr w.heap.size v (movN R L wins (k * 7)) (movF R L wins (k * 7)) ∧ Below w.heap.size w wr) (fun _ i _ => n - (intOf i).toNat)
  case atStart => exact ⟨0, by omega, rfl, ownsPairs_zero _ _ _, Go.Joins.below_alloc1 _ _⟩
  case round =>
    obtain ⟨k, hk, rfl, hown, hbw⟩ := hrel
    by_cases hlt : k < n
    · have hd : decide ((k : Int) < (n : Int)) = true := by simp; omega
      have hlenF := movN_le R L wins (k * 7)
      go_wp2_with fail
      obtain ⟨wo, hwo⟩ : ∃ wo : World, wo = wr := ⟨_, rfl⟩
      subst hwo
      go_loopw [9, 12] (fun v b wr => ∃ j : Nat, j ≤ 7 ∧ b = .int .i64 j ∧ ownsPairs wr w.heap.size v (movN R L wins (k * 7 + j)) (movF R L wins (k * 7 + j)) ∧ Below w.heap.size w wr) (fun _ b _ => 7 - (intOf b).toNat)
      case atStart => exact ⟨0, by omega, rfl, hown, hbw⟩
      case round =>
        obtain ⟨j, hj, rfl, hown2, hbw2⟩ := hrel
        clear hown hbw hlenF
        by_cases hlj : j < 7
        · have hF := movF_succ R L wins k j hlj
          have hNs := movN_succ R L wins k j hlj
          have hNle := movN_le R L wins (k * 7 + j)
          have hq : movQ R L wins k j = (nextB L (R.getD k 0).toNat j && (!wins || (nimN L R ^^^ numC L (R.getD k 0) ^^^ numC L (((R.getD k 0).toNat ||| 2 ^ j : Nat) : Int) == 0))) := rfl
          rw [HSX.out] at hq
          rcases RdI_below hr hbw2 with h | ⟨b1, o1, rfl, hb1, hc1⟩
          · have := HN.out; rw [h] at this; simp at this; omega
          have hx := hc1 k (by rw [HN.out]; omega)
          have hin := HR.out _ (memGetD (show k < R.length by rw [HN.out]; omega))
          generalize movF R L wins (k * 7 + j) = F at hF hown2
          generalize movN R L wins (k * 7 + j) = N at hNs hNle hown2
          generalize movQ R L wins k j = Q at hq hF hNs
          have hn8 := numC_lt L _ hin
          generalize R.getD k 0 = y at hx hin hq hn8
          rw [inB_iff] at hin
          obtain ⟨C, rfl⟩ := Int.eq_ofNat_of_zero_le hin.1
          have hC : C < 128 := by omega
          rw [Int.toNat_natCast] at hq
          have HX := Lib.hid (fun W h => l11Next_any C j hC hlj bo m capL L W h HNL.out hmL HD.out)
          have hl := lor_lt C j hC hlj
          generalize C ||| 2 ^ j = x at hq HX hl
          generalize nextB L C j = q at hq HX
          have hall2 := AllOwn_below hall hbw2
          have hy := (AllOwn_at hall2 C hC).1
          have hz := (AllOwn_at hall2 x hl).1
          have ey : (valC L knF C).num = numC L (C : Int) := rfl
          have ez : (valC L knF x).num = numC L (x : Int) := rfl
          have hx8 := numC_lt L (x : Int) (by rw [inB_iff]; omega)
          rw [ey] at hy
          rw [ez] at hz
          generalize numC L (C : Int) = a at hy hq hn8
          generalize numC L (x : Int) = z at hz hq hx8
          have hxx1 := xor64 s a (by omega) (by omega)
          have hsa : s ^^^ a < 8 := Nat.xor_lt_two_pow (n := 3) hnim hn8
          generalize s ^^^ a = sa at hxx1 hsa hq
          have hxx2 := xor64 sa z (by omega) (by omega)
          have hb0 := bne0 (sa ^^^ z)
          generalize sa ^^^ z = zz at hxx2 hq hb0
          generalize (zz == 0) = t at hq hb0
          have hgl := hall2.1
          have HFs := Lib.hid hF
          have HNs := Lib.hid hNs
          clear hF hNs hc1 ey ez
          rcases q with _ | _
          · rw [Bool.false_and] at hq
            subst hq
            clear hxx1 hxx2
            go_wp2_with (first | (go_at_call 73; refine (HX.out _ (RdI_below hrL hbw2)).mono ?_; rintro e w2 ⟨rfl, hb2⟩))
            go_quiet (fail)
            go_wp2
            go_roundw
            case rel => exact ⟨j + 1, by omega, by go_num, by rw [← Nat.add_assoc, HFs.out, HNs.out]; exact ownsPairs_below hown2 (Bdr hb2 _) (Nat.le_refl _), belowThen hbw2 (Bdr hb2 _)⟩
            case measure => simp [intOf]; omega
          · rw [Bool.true_and] at hq
            rcases wins with _ | _
            · rw [Bool.not_false, Bool.true_or] at hq
              subst hq
              clear hxx1 hxx2
              go_wp2_with (first | (go_at_call 73; refine (HX.out _ (RdI_below hrL hbw2)).mono ?_; rintro e w2 ⟨rfl, hb2⟩))
              go_quiet (fail)
              go_wp2_with (first | (at_builtin; refine wpAppendPair (w2.drewN _) (by rfl) _ _ (by rfl) w.heap.size _ N _ (by rfl) (ownsPairs_below hown2 (Bdr hb2 _) (Nat.le_refl _)) _ _ _ (by rfl) (by omega) (Nat.le_trans hbw2.size (Bdr hb2 _).size) ?_; intro ao' cap' w5 hown5 hb5))
              go_roundw
              case rel => exact ⟨j + 1, by omega, by go_num, by rw [← Nat.add_assoc, HFs.out, HNs.out]; exact hown5, (belowThen hbw2 (Bdr hb2 _)).trans hb5⟩
              case measure => simp [intOf]; omega
            · rw [Bool.not_true, Bool.false_or] at hq
              subst hq
              rcases Q with _ | _
              · go_wp2_with (first | (go_at_call 73; refine (HX.out _ (RdI_below hrL hbw2)).mono ?_; rintro e w2 ⟨rfl, hb2⟩; replace hx := (hb2.cell (p := ⟨b1, o1 + k, none⟩) hb1).trans hx; replace hy := (hb2.cell (p := ⟨g, C * 5, none⟩) hgl).trans hy; replace hz := (hb2.cell (p := ⟨g, x * 5, none⟩) hgl).trans hz))
                go_quiet (fail)
                go_wp2
                go_roundw
                case rel => exact ⟨j + 1, by omega, by go_num, by rw [← Nat.add_assoc, HFs.out, HNs.out]; exact ownsPairs_below hown2 (Bdr hb2 _) (Nat.le_refl _), belowThen hbw2 (Bdr hb2 _)⟩
                case measure => simp [intOf]; omega
              · go_wp2_with (first | (go_at_call 73; refine (HX.out _ (RdI_below hrL hbw2)).mono ?_; rintro e w2 ⟨rfl, hb2⟩; replace hx := (hb2.cell (p := ⟨b1, o1 + k, none⟩) hb1).trans hx; replace hy := (hb2.cell (p := ⟨g, C * 5, none⟩) hgl).trans hy; replace hz := (hb2.cell (p := ⟨g, x * 5, none⟩) hgl).trans hz))
                go_quiet (fail)
                go_wp2_with (first | (at_builtin; refine wpAppendPair (w2.drewN _) (by rfl) _ _ (by rfl) w.heap.size _ N _ (by rfl) (ownsPairs_below hown2 (Bdr hb2 _) (Nat.le_refl _)) _ _ _ (by rfl) (by omega) (Nat.le_trans hbw2.size (Bdr hb2 _).size) ?_; intro ao' cap' w5 hown5 hb5))
                go_roundw
                case rel => exact ⟨j + 1, by omega, by go_num, by rw [← Nat.add_assoc, HFs.out, HNs.out]; exact hown5, (belowThen hbw2 (Bdr hb2 _)).trans hb5⟩
                case measure => simp [intOf]; omega
        · have hj7 : j = 7 := by omega
          subst hj7
          go_wp2
          go_roundw
          case rel => exact ⟨k + 1, by omega, by go_num, by rw [show (k + 1) * 7 = k * 7 + 7 by omega]; exact hown2, hbw2⟩
          case measure => simp [intOf]; omega
    · have hkn : k = n := by omega
      subst hkn
      obtain ⟨co, cc, rfl, -⟩ := ownsPairs_shape hown
      go_wp2
      go_ret
      exact ⟨co, cc, rfl, hown, hbw⟩
/-- append of one pair, and what becomes of other blocks. -/
theorem wpAppendPair2 {ops : Array Oper} {rest : List Oper} {o : Oper} {a : Act} {Q : Exit → Act → World → Prop} (w : World) (hgd : o.guard = none) (s x : Operand)
    (ho : o.op = .call { callee := .builtin .append, args := #[s, x], argTypes := #[36, 36] })
    (B : Nat) (v : Value) (n : Nat) (F : List Int) (hs : a.eval s = v) (hown : ownsPairs w B v n F) (z1 z2 : Int) (t' : TypeId) (hx : a.eval x = .slice (some ⟨w.heap.size, 0, none⟩) 1 1)
    (hn : n ≤ 1000000000) (hB : B ≤ w.heap.size)
    (h : ∀ ao cap w', ownsPairs w' B (.slice ao (n + 1) cap) (n + 1) (F ++ [z1, z2]) → Below B w w' → (∀ k, k < w.heap.size → v.ownBlock ≠ some k → w'.heap[k]? = w.heap[k]?) →
      (∀ k, (Value.slice ao (n + 1) cap).ownBlock = some k → k < w'.heap.size ∧ (v.ownBlock = some k ∨ w.heap.size ≤ k)) → wpList Tryz.prog ops Q rest (a.put o.dst (.slice ao (n + 1) cap)) w') :
    wpList Tryz.prog ops Q (o :: rest) a (w.alloc (.cells #[.int .i64 z1, .int .i64 z2] t')) := by
  obtain ⟨i0, hi, hz0, hz1, hz2⟩ := info_parts infoPair
  have hb1 : (n + 1) * 16 ≤ 140737488355328 := by omega
  have hnews : ∀ j u, [Value.int .i64 z1, .int .i64 z2][j]? = some u → (w.alloc (.cells #[.int .i64 z1, .int .i64 z2] t')).cell? ((⟨w.heap.size, 0, none⟩ : Addr).add j) = some u := by
    intro j u hu
    rw [Addr.add_lit, World.cell?_alloc_at _ _ _ _ rfl]
    simpa using hu
  have h1 : ∀ u ∈ [Value.int .i64 z1, .int .i64 z2], u.oneCell' = true := by simp [Value.oneCell']
  have fin : ∀ v' w', w'.ownsRow B 65 2 v' (n + 1) (F.map (Value.int .i64) ++ [.int .i64 z1, .int .i64 z2]) → Below B w w' → (∀ k, k < w.heap.size → v.ownBlock ≠ some k → w'.heap[k]? = w.heap[k]?) → (∀ k, v'.ownBlock = some k → v.ownBlock = some k ∨ w.heap.size ≤ k) → wpList Tryz.prog ops Q rest (a.put o.dst v') w' := by
    intro v' w' hr hb hk hat
    have hr2 : ownsPairs w' B v' (n + 1) (F ++ [z1, z2]) := .inl (by simpa using hr)
    rcases hr.2 with ⟨h0, _⟩ | ⟨g, cap, cur, rfl, _, hg, _⟩
    · omega
    · exact h _ _ _ hr2 hb hk fun k hk2 => ⟨by
        simp only [Value.ownBlock, Option.some.injEq] at hk2
        subst hk2
        exact (Array.getElem?_eq_some_iff.1 hg).1, hat k hk2⟩
  rcases hown with hown | ⟨rfl, hxs, a0, rfl⟩
  · refine wpList_append_own_at _ hgd s x 36 ho B 65 i0 (.agg #[.int .i64 0, .int .i64 0]) 2 16 Tryz.underlying36 hi hz0 hz1 hz2 rfl (by decide) v n _ hs (World.ownsRow.alloc hown _) ⟨w.heap.size, 0, none⟩ 1 1 _ hx rfl hnews h1 (by unfold maxLen; omega) hb1 (by simp; omega) ?_
    intro v' w' hr hg _ hat
    refine fin v' w' hr (((Below.refl B w).alloc hB _).grown hg (by simp; omega) fun k hk => (World.ownsRow.lt hown k hk).1) (fun k hk hne => ?_) (fun k hk => ?_)
    · rw [hg.block k (by simp; omega) (Ne.symm hne), Below.heap_alloc _ _ _ hk]
    · rcases hat with hat | hat
      · exact .inl (hat.symm.trans hk)
      · right
        rw [hat] at hk
        simp only [Option.some.injEq, heapAlloc] at hk
        omega
  · have hF : F = [] := List.map_eq_nil_iff.1 hxs
    subst hF
    refine wpList_append_grows _ hgd s x 36 ho 65 i0 (.agg #[.int .i64 0, .int .i64 0]) 2 16 Tryz.underlying36 hi hz0 hz1 hz2 rfl (by decide) (some a0) 0 0 [] hs (by simp) (by simp) (by simp) ⟨w.heap.size, 0, none⟩ 1 1 _ hx rfl hnews h1 (by omega) (by unfold maxLen; omega) hb1 ?_
    intro v' w' hr hg
    have hr2 : w'.ownsRow B 65 2 v' (0 + 1) ([] ++ [.int .i64 z1, .int .i64 z2]) := by
      refine ⟨hr.1, ?_⟩
      rcases hr.2 with h2 | ⟨g, cap, cur, hv, hBg, r⟩
      · exact .inl h2
      · exact .inr ⟨g, cap, cur, hv, by simp at hBg; omega, r⟩
    refine fin v' w' hr2 (((Below.refl B w).alloc hB _).grown hg (by simp; omega) fun k hk => by cases hk) (fun k hk hne => ?_) (fun k hk => ?_)
    · rw [hg.block k (by simp; omega) (by simp), Below.heap_alloc _ _ _ hk]
    · right
      rcases hr.2 with ⟨h0, _⟩ | ⟨g, cap, cur, rfl, hBg, _⟩
      · omega
      · simp only [Value.ownBlock, Option.some.injEq] at hk
        rw [heapAlloc] at hBg
        omega
/-- Two slices of pairs of the call's own that lie apart. -/
def own2 (w : World) (B : Nat) (va : Value) (na : Nat) (Fa : List Int) (vw : Value) (nw : Nat) (Fw : List Int) : Prop :=
  ownsPairs w B va na Fa ∧ ownsPairs w B vw nw Fw ∧ (∀ k, va.ownBlock = some k → k < w.heap.size ∧ vw.ownBlock ≠ some k) ∧ ∀ k, vw.ownBlock = some k → k < w.heap.size
theorem own2_nil (w : World) (B : Nat) : own2 w B (.slice none 0 0) 0 [] (.slice none 0 0) 0 [] := ⟨ownsPairs_nil _ _, ownsPairs_nil _ _, fun _ h => by simp [Value.ownBlock] at h, fun _ h => by simp [Value.ownBlock] at h⟩
theorem own2_below {w w' : World} {B : Nat} {va vw : Value} {na nw : Nat} {Fa Fw : List Int} (h : own2 w B va na Fa vw nw Fw) (hb : Below w.heap.size w w') : own2 w' B va na Fa vw nw Fw :=
  ⟨ownsPairs_below h.1 hb (Nat.le_refl _), ownsPairs_below h.2.1 hb (Nat.le_refl _), fun k hk => ⟨by have := hb.size; have := (h.2.2.1 k hk).1; omega, (h.2.2.1 k hk).2⟩, fun k hk => by have := hb.size; have := h.2.2.2 k hk; omega⟩
theorem ownsPairs_keep {w w' : World} {B : Nat} {v : Value} {n : Nat} {F : List Int} (h : ownsPairs w B v n F) (hk : ∀ k, k < w.heap.size → v.ownBlock = some k → w'.heap[k]? = w.heap[k]?) : ownsPairs w' B v n F := by
  rcases h with h | h
  · refine .inl ⟨h.1, ?_⟩
    rcases h.2 with h2 | ⟨g, cap, cur, rfl, hBg, hg, r⟩
    · exact .inl h2
    · exact .inr ⟨g, cap, cur, rfl, hBg, by rw [hk g (Array.getElem?_eq_some_iff.1 hg).1 rfl]; exact hg, r⟩
  · exact .inr h
end Go.Proofs.YtcddfpbohejhhaaGreat
