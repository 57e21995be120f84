/- Joined texts: DrawR, RInts, Strs, RTexts. -/
import Derived.Test.YtfdmcnnjifggnaaDoorMg07
import Derived.Test.YtfdmcnnjifggnaaDoorMg06
import Derived.Lib.Hide
import Derived.Deep.RegionWith
import Derived.Test.YtfdmcnnjifggnaaDoorMg01
import Derived.Deep.QuietTactic
import Derived.BigQuiet
import Derived.Test.YtfdmcnnjifggnaaDoorMg05
import Derived.Deep.RegionHeld3
import Derived.Laws.IdiomStrings
namespace Go.Proofs.YtfdmcnnjifggnaaDoor
open Go.RowKit

theorem own_at {w : World} {B n cap g : Nat} {L : List Int} (h : ownsInts w B (.slice (some ⟨g, 0, none⟩) n cap) L) (j : Nat) (hj : j < L.length) : w.cell? ⟨g, j, none⟩ = some (.int .i64 (L.getD j 0)) := by
  obtain ⟨g', he, -, -, hc⟩ := own_first h (by omega)
  simp only [Option.some.injEq, Addr.mk.injEq, and_true] at he
  subst he
  exact hc j hj
/-- One of some numbers that are written out, where nothing old has changed since. -/
theorem amongX (A : Array Value) (k : Nat) (T : TypeId) {w0 W W' : World} {b m : Nat} (h : CurO w0 W b m) (hm : m ≤ 999990) (hk : A.size = k) (hk0 : 0 < k) (hk1 : k ≤ 1000) (hA : A.toList.all isI = true) (hb : Below (W.alloc (.cells A T)).heap.size (W.alloc (.cells A T)) W') :
    Calls Tryd.prog 27 #[.pointer (some ⟨b, 0, none⟩), .slice (some ⟨W.heap.size, 0, none⟩) k k] W'
    fun e w' => (∃ x : Int, x ∈ A.toList.map intOf ∧ e = .returned (.int .i64 x)) ∧ CurO w0 w' b (m + 2) := by
  have hl : (A.toList.map intOf).length = k := by rw [List.length_map]; exact hk
  have hc := (h.alloc (.cells A T)).then hb
  have hr := RdI_new W (A.toList.map intOf) T
  rw [isI_all _ hA] at hr
  exact (among_any W.heap.size k k (A.toList.map intOf) b m W' hc.1 hm hl hk0 hk1 (by have := h.1.lt; omega) (RdI_below hr hb)).mono fun e w' k => ⟨k.1, k.2.1, hc.2.trans k.2.2⟩
set_option maxHeartbeats 1600000 in
theorem DrawScrollRows_any (ao : Option Addr) (n cap : Nat) (w : World) (h : RdY w ao n) : Calls Tryd.prog 12 #[.slice ao n cap] w fun e w' => (∃ (s : ByteArray) (k : Int), s.size ≤ 30 ∧ 0 ≤ k ∧ k ≤ 7 ∧ e = .returned (.tuple #[.string s, .int .i64 k])) ∧ Below w.heap.size w w' := by
  have hc0 := Cur_new w ao n cap 51 h
  go_enter Tryd.func12, Tryd.ntmps12
  go_wp2_with (first
    | (go_at_call 38; refine (wordOfO _ hc1 (by omega)).mono ?_; rintro e w2 ⟨⟨s, hs, rfl⟩, hc2⟩)
    | (go_at_call 27; refine (amongB _ _ _ _ hc0 (by simp) (by omega) (by rfl) (by decide) (by decide) (by rfl)).mono ?_; rintro e w1 ⟨⟨z, hz, rfl⟩, hc1⟩; have hz2 : 0 ≤ z ∧ z ≤ 7 := (by simp [intOf] at hz; omega); clear hz))
  go_ret2
  exact ⟨⟨s, z, hs, hz2.1, hz2.2, rfl⟩, CurO.new hc2⟩
set_option maxHeartbeats 3200000 in
theorem DrawCountReadings_any (ao : Option Addr) (n cap : Nat) (w : World) (h : RdY w ao n) : Calls Tryd.prog 5 #[.slice ao n cap] w fun e w' => RetOwn 30 w e w' ∧ Below w.heap.size w w' := by
  have hc0 := Cur_new w ao n cap 51 h
  have hD := DrawWordOfRow_any ao n cap _ (RdY_below h (Go.Joins.below_alloc1 w (.cells #[.slice ao n cap, .int .i64 0, .int .u64 0] 51)))
  have HD := Lib.hid hD
  clear hD
  have hA1 := @cellAlloc; have hA2 := @frozenAlloc; have hA3 := @setCellAlloc; go_enter Tryd.func5, Tryd.ntmps5
  go_wp2_with (go_at_call 24; refine HD.out.mono ?_; rintro e w1 ⟨⟨a1, c1, L, rfl, hL, ho1⟩, hb1⟩)
  have hc1 := hc0.then hb1
  have hB1 : w.heap.size + 1 ≤ w1.heap.size := by have := hb1.size; rw [heapAlloc] at this; exact this
  rw [heapAlloc] at ho1
  clear HD hc0 hb1
  generalize hn : L.length = n1 at *
  go_loopw [5] (fun i wr => ∃ (k : Nat) (M : List Int), k ≤ n1 ∧ M.length = n1 ∧ i = .int .i64 k ∧ ownsInts wr (w.heap.size + 1) (.slice a1 n1 c1) M ∧ CurO w wr w.heap.size (10 * k)) (fun i _ => n1 - (intOf i).toNat)
  case atStart => exact ⟨0, L, by omega, hn, rfl, ho1, hc1⟩
  case round =>
    obtain ⟨k, M, hk, hM, rfl, hown, hcu⟩ := hrel
    clear hc1 ho1 hn
    by_cases hlt : k < n1
    · obtain ⟨g, rfl, hg1, hg2, hgc⟩ := own_first (by rw [← hM] at hown; exact hown) (by omega)
      have HM := Lib.hid hM
      have HO := Lib.hid hown
      clear hgc hown hM
      have hlt3 : (k : Int) < (n1 : Int) := by omega
      go_wp2_with (first
        | (go_at_call 25; refine (oneO _ (CurO.self hcu) (by omega)).mono ?_; rintro e w2 ⟨⟨q, rfl⟩, hc2⟩; have ho2 := Lib.hid (ownsG_onlyC HO.out (by omega) hc2.2); have hcu2 := hcu.trans hc2; have hg3 : g < w2.heap.size := (by have := hc2.2.size; omega); have hx2 := own_at ho2.out k (by rw [HM.out]; exact hlt))
        | (go_at_call 26; refine (l2Cell_any _ _).mono ?_; rintro e w' ⟨rfl, rfl⟩))
      · rename_i hq hin
        have hf2 := ownsInts_frozen ho2.out (by rw [HM.out]; omega) k
        go_region_with (first
          | (go_at_call 27; refine (amongX _ _ _ (CurO.self hc2) (by omega) (by rfl) (by decide) (by decide) (by rfl) ((Below.refl _ _).drew)).mono ?_; rintro e w4 ⟨⟨z, hz, rfl⟩, hc4⟩; clear hz; have ho4 := Lib.hid (ownsG_onlyC ho2.out (by omega) hc4.2); have hcu4 := hcu2.trans hc4; have hx4 := own_at ho4.out k (by rw [HM.out]; exact hlt); have hf4 := ownsInts_frozen ho4.out (by rw [HM.out]; omega) k))
        all_goals
          have hs4 := hc4.2.size
          go_wp2_with fail
          go_roundw
          case rel => exact ⟨k + 1, M.set k _, by omega, by rw [List.length_set]; exact HM.out, by go_num, ownsInts_set ho4.out HM.out k _, (hcu4.appended (B := w.heap.size + 1) ((Below.refl _ _).setCell (by exact hg1) _) (by omega) (by omega) (by omega)).mono (by omega)⟩
          case measure => simp [intOf]; omega
      · go_roundw
        case rel => exact ⟨k + 1, M, by omega, HM.out, by go_num, ho2.out, hcu2.mono (by omega)⟩
        case measure => simp [intOf]; omega
      · go_roundw
        case rel => exact ⟨k + 1, M, by omega, HM.out, by go_num, ho2.out, hcu2.mono (by omega)⟩
        case measure => simp [intOf]; omega
    · have hkn : k = n1 := by omega
      subst hkn
      go_wp2
      go_ret
      exact ⟨⟨a1, c1, M, by rw [hM]; rfl, by omega, ownsInts_le (by rw [hM]; exact hown) (by omega)⟩, CurO.new hcu⟩
set_option maxHeartbeats 1600000 in
theorem DrawReadingAt_any (ao : Option Addr) (n cap : Nat) (w : World) (h : RdY w ao n) : Calls Tryd.prog 9 #[.slice ao n cap] w fun e w' => (∃ (ao : Option Addr) (cap : Nat) (L : List Int) (k : Int), e = .returned (.tuple #[.slice ao L.length cap, .int .i64 k]) ∧ L.length ≤ 30 ∧ ownsInts w' w.heap.size (.slice ao L.length cap) L ∧ -1 ≤ k ∧ k ≤ 4611686018427387904) ∧ Below w.heap.size w w' := by
  have hc0 := Cur_new w ao n cap 51 h
  go_enter Tryd.func9, Tryd.ntmps9
  go_wp2_with (first
    | (go_at_call 33; first
      | (refine (pickO _ hc2 (by omega)).mono ?_; rintro e w3 ⟨⟨z, hz, hzn, rfl⟩, hc3⟩; clear hzn)
      | (refine (pickO _ hc1 (by omega)).mono ?_; rintro e w2 ⟨⟨y, hy, hyn, rfl⟩, hc2⟩; clear hyn)
      | (refine (pickO _ hc0 (by omega)).mono ?_; rintro e w1 ⟨⟨x, hx, hxn, rfl⟩, hc1⟩; clear hxn))
    | (go_at_call 27; refine (amongA _ _ _ hc3 (by omega) (by rfl) (by decide) (by decide) (by rfl)).mono ?_; rintro e w4 ⟨⟨k, hk, rfl⟩, hc4⟩; have hk2 : -1 ≤ k ∧ k ≤ 4611686018427387904 := (by simp [intOf] at hk; omega); clear hk; have hb4 := CurO.new hc4)
    | (go_at_call 5; refine (DrawCountReadings_any ao n cap w4 (RdY_below h hb4)).mono ?_; rintro e w5 ⟨⟨a5, c5, L, rfl, hL, ho5⟩, hb5⟩))
  go_ret2
  exact ⟨⟨a5, c5, L, k, rfl, hL, ownsInts_le ho5 hb4.size, hk2⟩, belowThen hb4 hb5⟩
end Go.Proofs.YtfdmcnnjifggnaaDoor

namespace Go.Proofs.YtfdmcnnjifggnaaDoor
open Go.RowKit

theorem rBig_any (ao : Option Addr) (n cap : Nat) (w : World) : Calls Tryd.prog 4 #[.slice ao n cap] w fun e w' => e = .returned (.bool (decide ((65536 : Int) < (n : Int)))) ∧ w = w' := by
  go_enter Tryd.func4, Tryd.ntmps4
  go_wp2
  go_ret
  exact ⟨rfl, rfl⟩
theorem rInts_same (ao bo : Option Addr) (n ca cb : Nat) (L : List Int) (w : World) (ha : RdI w ao L) (hb : RdI w bo L) (hn : L.length = n) (hm : n ≤ maxLen) :
    Calls Tryd.prog 15 #[.slice ao n ca, .slice bo n cb] w fun e w' => e = .returned (.bool true) ∧ Below w.heap.size w w' := by
  unfold maxLen at hm
  go_enter Tryd.func15, Tryd.ntmps15
  go_wp2
  go_loopw [5] (fun i wr => ∃ k : Nat, k ≤ n ∧ i = .int .i64 k ∧ Below w.heap.size w wr) (fun i _ => n - (intOf i).toNat)
  case atStart => exact ⟨0, by omega, rfl, Below.refl _ _⟩
  case round =>
    obtain ⟨k, hk, rfl, hbw⟩ := hrel
    by_cases hlt : k < n
    · have ha' := RdI_below ha hbw
      have hb' := RdI_below hb hbw
      rcases ha' with h | ⟨b1, o1, rfl, hb1, hc1⟩
      · rw [h] at hn; simp at hn; omega
      rcases hb' with h | ⟨b2, o2, rfl, hb2, hc2⟩
      · rw [h] at hn; simp at hn; omega
      have hx := hc1 k (by omega)
      have hy := hc2 k (by omega)
      clear hc1 hc2 ha hb hn
      go_wp2_with fail
      go_quiet (fail)
      go_wp2
      go_roundw
      case rel => exact ⟨k + 1, by omega, by go_num, belowThen hbw (Go.Joins.below_draws _ _ _)⟩
      case measure => simp [intOf]; omega
    · go_wp2
      go_ret
      exact ⟨rfl, hbw⟩
end Go.Proofs.YtfdmcnnjifggnaaDoor

namespace Go.Proofs.YtfdmcnnjifggnaaDoor
open Go.RowKit

theorem infoStr : (Tryd.prog.info? 9).map (fun i => (i.zero, i.size, i.bytes)) = some (some (.string ⟨#[]⟩), 1, 16) := by kernel_rfl
/-- Texts as values. -/
def strV (S : List ByteArray) : List Value := S.map Value.string
theorem strV_length (S : List ByteArray) : (strV S).length = S.length := by simp [strV]
theorem strV_at (S : List ByteArray) (j : Nat) (h : j < S.length) : (strV S).getD j undef = .string (S.getD j ⟨#[]⟩) := by simp [strV, h]
theorem strV_append (S : List ByteArray) (s : ByteArray) : strV (S ++ [s]) = strV S ++ [.string s] := by simp [strV]
/-- The digits of q ahead of a text. -/
def mkR (q : Nat) (o : ByteArray) : ByteArray := if h : q = 0 then o else mkR (q / 10) (⟨#[UInt8.ofNat (48 + q % 10)]⟩ ++ o)
termination_by q
decreasing_by omega
theorem mkR_zero (o : ByteArray) : mkR 0 o = o := by unfold mkR; rfl
theorem mkR_step (q : Nat) (h : q ≠ 0) (o : ByteArray) : mkR q o = mkR (q / 10) (⟨#[UInt8.ofNat (48 + q % 10)]⟩ ++ o) := by rw [mkR, dif_neg h]
/-- The text of a mark. -/
def mkT (k : Nat) : ByteArray := ⟨#[109]⟩ ++ mkR k ⟨#[]⟩
theorem convMark (w : World) (q : Nat) : (convert 22 9 (.slice (some ⟨w.heap.size, 0, none⟩) 1 1)).run Tryd.prog (w.alloc (.cells #[.int .u8 (48 + (q : Int) % 10)] 5)) = .ok (.string ⟨#[UInt8.ofNat (48 + q % 10)]⟩) (w.alloc (.cells #[.int .u8 (48 + (q : Int) % 10)] 5)) := by
  refine run_convert_bytes_back _ _ _ 5 ⟨w.heap.size, 0, none⟩ 1 [UInt8.ofNat (48 + q % 10)] Tryd.underlying22 Tryd.underlying5 Tryd.underlying9 fun j hj => ?_
  have h0 : j = 0 := by simp at hj; omega
  subst h0
  rw [Addr.add_lit, World.cell?_alloc_at _ _ _ _ rfl]
  have : (UInt8.ofNat (48 + q % 10)).toNat = 48 + q % 10 := by rw [UInt8.toNat_ofNat']; omega
  simp [this]
  omega
/-- The marks k0, k0 + 1 .. as texts. -/
def mkS (n : Nat) : List ByteArray := (List.range n).map fun i => mkT (1 + i)
theorem mkS_length (n : Nat) : (mkS n).length = n := by simp [mkS]
theorem mkS_at (n j : Nat) (h : j < n) : (mkS n).getD j ⟨#[]⟩ = mkT (1 + j) := by simp [mkS, h]
/-- The first j texts are marked. -/
def mkP (S : List ByteArray) (j : Nat) : List ByteArray := mkS j ++ S.drop j
theorem mkP_length (S : List ByteArray) (j : Nat) (hj : j ≤ S.length) : (mkP S j).length = S.length := by simp [mkP, mkS]; omega
theorem mkP_succ (S : List ByteArray) (j : Nat) (hj : j < S.length) : (mkP S j).set j (mkT (1 + j)) = mkP S (j + 1) := by
  apply List.ext_getElem?
  intro i
  have h1 : (mkS j).length = j := mkS_length j
  have h2 : (mkS (j + 1)).length = j + 1 := mkS_length _
  simp only [mkP, List.getElem?_set, List.length_append, h1, List.length_drop]
  by_cases hij : j = i
  · subst hij
    rw [if_pos rfl, if_pos (by omega), List.getElem?_append_left (by omega)]
    simp [mkS]
  · rw [if_neg hij]
    by_cases hlt : i < j
    · rw [List.getElem?_append_left (by omega), List.getElem?_append_left (by omega)]
      simp [mkS, hlt, show i < j + 1 by omega]
    · rw [List.getElem?_append_right (by omega), List.getElem?_append_right (by omega), h1, h2]
      simp only [List.getElem?_drop]
      congr 1
      omega
theorem ownsV_set {w : World} {B g n cap : Nat} {e : TypeId} {S : List ByteArray} (h : ownsV w B e (.slice (some ⟨g, 0, none⟩) n cap) (strV S)) (hn : S.length = n) (j : Nat) (z : ByteArray) :
    ownsV (w.setCell ⟨g, j, none⟩ (.string z)) B e (.slice (some ⟨g, 0, none⟩) n cap) (strV (S.set j z)) := by
  subst hn
  unfold ownsV at h ⊢
  rw [strV_length] at h ⊢
  rw [List.length_set]
  rcases h with h | ⟨h0, h1, a, h2⟩
  · have := (World.ownsRow.stored h j (.string z)).1
    refine .inl ?_
    simpa [strV, List.map_set] using this
  · have : S = [] := List.eq_nil_of_length_eq_zero (by simpa [strV] using h0)
    subst this
    exact .inr ⟨rfl, rfl, a, h2⟩
theorem ownsV_shapeS {w : World} {B : Nat} {e : TypeId} {v : Value} {S : List ByteArray} (h : ownsV w B e v (strV S)) : ∃ ao cap, v = .slice ao S.length cap ∧
    (S = [] ∨ ∃ g, ao = some ⟨g, 0, none⟩ ∧ B ≤ g ∧ g < w.heap.size ∧ (∀ j, j < S.length → w.cell? ⟨g, j, none⟩ = some (.string (S.getD j ⟨#[]⟩))) ∧ ∀ j, w.frozen? ⟨g, j, none⟩ = false) := by
  obtain ⟨ao, cap, rfl, ⟨hn, _⟩ | ⟨g, rfl, hb, hg, hc, hcell, hf, _⟩⟩ := ownsG_shape h
  · exact ⟨ao, cap, by rw [strV_length], .inl (List.eq_nil_of_length_eq_zero (by simpa [strV] using hn))⟩
  · refine ⟨_, cap, by rw [strV_length], .inr ⟨g, rfl, hb, hg, fun j hj => ?_, hf⟩⟩
    rw [hcell j (by rw [strV_length]; omega)]
    simp [strV, hj]
end Go.Proofs.YtfdmcnnjifggnaaDoor

namespace Go.Proofs.YtfdmcnnjifggnaaDoor
open Go.RowKit

set_option maxHeartbeats 400000 in
theorem rTexts_same (ao bo : Option Addr) (n ca cb : Nat) (S : List ByteArray) (w : World) (ha : RdV w ao (strV S)) (hb : RdV w bo (strV S)) (hn : S.length = n) (hm : n ≤ maxLen) :
    Calls Tryd.prog 20 #[.slice ao n ca, .slice bo n cb] w fun e w' => e = .returned (.bool true) ∧ Below w.heap.size w w' := by
  unfold maxLen at hm
  go_enter Tryd.func20, Tryd.ntmps20
  go_wp2
  go_loopw [5] (fun i wr => ∃ k : Nat, k ≤ n ∧ i = .int .i64 k ∧ Below w.heap.size w wr) (fun i _ => n - (intOf i).toNat)
  case atStart => exact ⟨0, by omega, rfl, Below.refl _ _⟩
  case round =>
    obtain ⟨k, hk, rfl, hbw⟩ := hrel
    by_cases hlt : k < n
    · have ha' := RdV_below ha hbw
      have hb' := RdV_below hb hbw
      have hl := strV_length S
      rcases ha' with h | ⟨b1, o1, rfl, hb1, hc1⟩
      · rw [h] at hl; simp at hl; omega
      rcases hb' with h | ⟨b2, o2, rfl, hb2, hc2⟩
      · rw [h] at hl; simp at hl; omega
      have hx := hc1 k (by omega)
      have hy := hc2 k (by omega)
      rw [strV_at S k (by omega)] at hx hy
      clear hc1 hc2 ha hb hn hl
      generalize S.getD k ⟨#[]⟩ = s at hx hy
      go_wp2_with fail
      go_quiet (fail)
      go_wp2
      go_roundw
      case rel => exact ⟨k + 1, by omega, by go_num, belowThen hbw (Go.Joins.below_draws _ _ _)⟩
      case measure => simp [intOf]; omega
    · go_wp2
      go_ret
      exact ⟨rfl, hbw⟩
end Go.Proofs.YtfdmcnnjifggnaaDoor
