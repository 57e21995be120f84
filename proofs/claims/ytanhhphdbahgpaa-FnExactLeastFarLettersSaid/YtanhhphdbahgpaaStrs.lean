/- Slices of texts: the law's own comparing, marking and looking. -/
import Derived.Test.YtanhhphdbahgpaaOwnV
import Derived.Test.YtanhhphdbahgpaaMarks
import Derived.Lib.Hide
import Derived.Deep.QuietTactic
import Derived.BigQuiet
import Derived.Deep.RegionHeld3
import Derived.Laws.IdiomStrings
namespace Go.Proofs.Ytanhhphdbahgpaa
open Go.RowKit

theorem infoStr : (Try.prog.info? 9).map (fun i => (i.zero, i.size, i.bytes)) = some (some (.string ⟨#[]⟩), 1, 16) := by kernel_rfl
/-- Texts as values. -/
def strV (S : List ByteArray) : List Value := S.map Value.string
theorem strV_length (S : List ByteArray) : (strV S).length = S.length := by simp [strV]
theorem strV_at (S : List ByteArray) (j : Nat) (h : j < S.length) : (strV S).getD j undef = .string (S.getD j ⟨#[]⟩) := by simp [strV, h]
theorem strV_append (S : List ByteArray) (s : ByteArray) : strV (S ++ [s]) = strV S ++ [.string s] := by simp [strV]
set_option maxHeartbeats 400000 in
theorem eqStringS_same (ao bo : Option Addr) (n ca cb : Nat) (S : List ByteArray) (w : World) (ha : RdV w ao (strV S)) (hb : RdV w bo (strV S)) (hn : S.length = n) (hm : n ≤ maxLen) :
    Calls Try.prog 6 #[.slice ao n ca, .slice bo n cb] w fun e w' => e = .returned (.bool true) ∧ Below w.heap.size w w' := by
  unfold maxLen at hm
  go_enter Try.func6, Try.ntmps6
  go_wp2
  go_loopw [5] (fun i wr => ∃ k : Nat, k ≤ n ∧ i = .int .i64 k ∧ Below w.heap.size w wr) (fun i _ => n - (intOf i).toNat)
  case atStart => exact ⟨0, by omega, rfl, Below.refl _ _⟩
  case round =>
    obtain ⟨k, hk, rfl, hbw⟩ := hrel
    by_cases hlt : k < n
    · have ha' := RdV_below ha hbw
      have hb' := RdV_below hb hbw
      have hl := strV_length S
      rcases ha' with h | ⟨b1, o1, rfl, hb1, hc1⟩
      · rw [h] at hl; simp at hl; omega
      rcases hb' with h | ⟨b2, o2, rfl, hb2, hc2⟩
      · rw [h] at hl; simp at hl; omega
      have hx := hc1 k (by omega)
      have hy := hc2 k (by omega)
      rw [strV_at S k (by omega)] at hx hy
      clear hc1 hc2 ha hb hn hl
      generalize S.getD k ⟨#[]⟩ = s at hx hy
      go_wp2_with fail
      go_quiet (fail)
      go_wp2
      go_roundw
      case rel => exact ⟨k + 1, by omega, by go_num, belowThen hbw (Go.Joins.below_draws _ _ _)⟩
      case measure => simp [intOf]; omega
    · go_wp2
      go_ret
      exact ⟨rfl, hbw⟩
/-- The digits of q ahead of a text. -/
def mkR (q : Nat) (o : ByteArray) : ByteArray := if h : q = 0 then o else mkR (q / 10) (⟨#[UInt8.ofNat (48 + q % 10)]⟩ ++ o)
termination_by q
decreasing_by omega
theorem mkR_zero (o : ByteArray) : mkR 0 o = o := by unfold mkR; rfl
theorem mkR_step (q : Nat) (h : q ≠ 0) (o : ByteArray) : mkR q o = mkR (q / 10) (⟨#[UInt8.ofNat (48 + q % 10)]⟩ ++ o) := by rw [mkR, dif_neg h]
/-- The text of a mark. -/
def mkT (k : Nat) : ByteArray := ⟨#[109]⟩ ++ mkR k ⟨#[]⟩
theorem convMark (w : World) (q : Nat) : (convert 40 9 (.slice (some ⟨w.heap.size, 0, none⟩) 1 1)).run Try.prog (w.alloc (.cells #[.int .u8 (48 + (q : Int) % 10)] 5)) = .ok (.string ⟨#[UInt8.ofNat (48 + q % 10)]⟩) (w.alloc (.cells #[.int .u8 (48 + (q : Int) % 10)] 5)) := by
  refine run_convert_bytes_back _ _ _ 5 ⟨w.heap.size, 0, none⟩ 1 [UInt8.ofNat (48 + q % 10)] Try.underlying40 Try.underlying5 Try.underlying9 fun j hj => ?_
  have h0 : j = 0 := by simp at hj; omega
  subst h0
  rw [Addr.add_lit, World.cell?_alloc_at _ _ _ _ rfl]
  have : (UInt8.ofNat (48 + q % 10)).toNat = 48 + q % 10 := by rw [UInt8.toNat_ofNat']; omega
  simp [this]
  omega
set_option maxHeartbeats 800000 in
theorem markText_any (k : Nat) (hk : 0 < k) (hk2 : k ≤ 1000000) (w : World) : Calls Try.prog 15 #[.int .i64 k] w fun e w' => e = .returned (.string (mkT k)) ∧ Below w.heap.size w w' := by
  unfold mkT
  generalize hR : mkR k ⟨#[]⟩ = R
  have HR := Lib.hid hR
  clear hR
  have hk1 : ¬ ((k : Int) ≤ 0) := by omega
  have hA1 := @cellAlloc; have hA2 := @frozenAlloc; have hA3 := @setCellAlloc; go_enter Try.func15, Try.ntmps15
  go_wp2
  go_loopw [0, 3] (fun a o wr => ∃ (q j : Nat) (s : ByteArray), a = .int .i64 q ∧ o = .string s ∧ mkR q s = R ∧ q < 10 ^ j ∧ j + s.size ≤ 7 ∧ q ≤ 1000000 ∧ Below w.heap.size w wr) (fun a _ _ => (intOf a).toNat)
  case atStart => exact ⟨k, 7, ⟨#[]⟩, rfl, rfl, HR.out, by omega, by decide, hk2, Below.refl _ _⟩
  case round =>
    obtain ⟨q, j, s, rfl, rfl, hq, hqj, hsz, hq6, hbw⟩ := hrel
    by_cases h0 : q = 0
    · subst h0
      rw [mkR_zero] at hq
      subst hq
      go_wp2
      go_ret
      exact ⟨rfl, hbw⟩
    · have hpos : (0 : Int) < (q : Int) := by omega
      rw [mkR_step q h0] at hq
      have hj : ∃ i, j = i + 1 := by
        cases j with
        | zero => simp at hqj; omega
        | succ i => exact ⟨i, rfl⟩
      obtain ⟨i, rfl⟩ := hj
      have hqi : q / 10 < 10 ^ i := by rw [Nat.pow_succ] at hqj; omega
      have HQ := Lib.hid hq
      clear hq hqj
      have hconv := convMark wr q
      generalize UInt8.ofNat (48 + q % 10) = bq at hconv HQ
      go_wp2
      go_roundw
      case rel => exact ⟨q / 10, i, _, by go_num, rfl, HQ.out, hqi, (by rw [ByteArray.size_append, show (⟨#[bq]⟩ : ByteArray).size = 1 from rfl]; omega), by omega, belowThen hbw (Go.Joins.below_alloc1 _ _)⟩
      case measure => simp [intOf]; omega
/-- The marks k0, k0 + 1 .. as texts. -/
def mkS (n : Nat) : List ByteArray := (List.range n).map fun i => mkT (1 + i)
theorem mkS_length (n : Nat) : (mkS n).length = n := by simp [mkS]
theorem mkS_at (n j : Nat) (h : j < n) : (mkS n).getD j ⟨#[]⟩ = mkT (1 + j) := by simp [mkS, h]
/-- The first j texts are marked. -/
def mkP (S : List ByteArray) (j : Nat) : List ByteArray := mkS j ++ S.drop j
theorem mkP_length (S : List ByteArray) (j : Nat) (hj : j ≤ S.length) : (mkP S j).length = S.length := by simp [mkP, mkS]; omega
theorem mkP_succ (S : List ByteArray) (j : Nat) (hj : j < S.length) : (mkP S j).set j (mkT (1 + j)) = mkP S (j + 1) := by
  apply List.ext_getElem?
  intro i
  have h1 : (mkS j).length = j := mkS_length j
  have h2 : (mkS (j + 1)).length = j + 1 := mkS_length _
  simp only [mkP, List.getElem?_set, List.length_append, h1, List.length_drop]
  by_cases hij : j = i
  · subst hij
    rw [if_pos rfl, if_pos (by omega), List.getElem?_append_left (by omega)]
    simp [mkS]
  · rw [if_neg hij]
    by_cases hlt : i < j
    · rw [List.getElem?_append_left (by omega), List.getElem?_append_left (by omega)]
      simp [mkS, hlt, show i < j + 1 by omega]
    · rw [List.getElem?_append_right (by omega), List.getElem?_append_right (by omega), h1, h2]
      simp only [List.getElem?_drop]
      congr 1
      omega
theorem ownsV_set {w : World} {B g n cap : Nat} {e : TypeId} {S : List ByteArray} (h : ownsV w B e (.slice (some ⟨g, 0, none⟩) n cap) (strV S)) (hn : S.length = n) (j : Nat) (z : ByteArray) :
    ownsV (w.setCell ⟨g, j, none⟩ (.string z)) B e (.slice (some ⟨g, 0, none⟩) n cap) (strV (S.set j z)) := by
  subst hn
  unfold ownsV at h ⊢
  rw [strV_length] at h ⊢
  rw [List.length_set]
  rcases h with h | ⟨h0, h1, a, h2⟩
  · have := (World.ownsRow.stored h j (.string z)).1
    refine .inl ?_
    simpa [strV, List.map_set] using this
  · have : S = [] := List.eq_nil_of_length_eq_zero (by simpa [strV] using h0)
    subst this
    exact .inr ⟨rfl, rfl, a, h2⟩
theorem ownsV_shapeS {w : World} {B : Nat} {e : TypeId} {v : Value} {S : List ByteArray} (h : ownsV w B e v (strV S)) : ∃ ao cap, v = .slice ao S.length cap ∧
    (S = [] ∨ ∃ g, ao = some ⟨g, 0, none⟩ ∧ B ≤ g ∧ g < w.heap.size ∧ (∀ j, j < S.length → w.cell? ⟨g, j, none⟩ = some (.string (S.getD j ⟨#[]⟩))) ∧ ∀ j, w.frozen? ⟨g, j, none⟩ = false) := by
  obtain ⟨ao, cap, rfl, ⟨hn, _⟩ | ⟨g, rfl, hb, hg, hc, hcell, hf, _⟩⟩ := ownsG_shape h
  · exact ⟨ao, cap, by rw [strV_length], .inl (List.eq_nil_of_length_eq_zero (by simpa [strV] using hn))⟩
  · refine ⟨_, cap, by rw [strV_length], .inr ⟨g, rfl, hb, hg, fun j hj => ?_, hf⟩⟩
    rw [hcell j (by rw [strV_length]; omega)]
    simp [strV, hj]
set_option maxHeartbeats 800000 in
theorem markStringS_any (B : Nat) (ao : Option Addr) (n cap : Nat) (S : List ByteArray) (w : World) (ho : ownsV w B 9 (.slice ao n cap) (strV S)) (hn : S.length = n) (hm : n ≤ 1000) (hB : B ≤ w.heap.size) :
    Calls Try.prog 7 #[.slice ao n cap, .int .i64 1] w fun e w' => e = .returned (.int .i64 (1 + (n : Nat))) ∧ ownsV w' B 9 (.slice ao n cap) (strV (mkS n)) ∧ Below B w w' := by
  go_enter Try.func7, Try.ntmps7
  go_wp2
  go_loopw [1, 5] (fun m i wr => ∃ k : Nat, k ≤ n ∧ i = .int .i64 k ∧ m = .int .i64 (1 + (k : Nat)) ∧ ownsV wr B 9 (.slice ao n cap) (strV (mkP S k)) ∧ Below B w wr) (fun _ i _ => n - (intOf i).toNat)
  case atStart => exact ⟨0, by omega, rfl, rfl, by simpa [mkP, mkS] using ho, Below.refl _ _⟩
  case round =>
    obtain ⟨k, hk, rfl, rfl, hown, hbw⟩ := hrel
    by_cases hlt : k < n
    · have hlen := mkP_length S k (by omega)
      have HT := Lib.hid (fun W => by have h := markText_any (1 + k) (by omega) (by omega) W; rw [show ((1 + k : Nat) : Int) = 1 + (k : Int) by omega] at h; exact h : ∀ W, Calls Try.prog 15 #[.int .i64 (1 + (k : Int))] W fun e w' => e = .returned (.string (mkT (1 + k))) ∧ Below W.heap.size W w')
      have hsu := mkP_succ S k (by omega)
      have hset : ∀ (W : World), Below wr.heap.size wr W → ∃ g, ao = some ⟨g, 0, none⟩ ∧ B ≤ g ∧ g < W.heap.size ∧ W.cell? ⟨g, k, none⟩ = some (.string ((mkP S k).getD k ⟨#[]⟩)) ∧ W.frozen? ⟨g, k, none⟩ = false := fun W h => by
        obtain ⟨ao', cap', he, hL | ⟨g, rfl, hBg, hg, hc, hf⟩⟩ := ownsV_shapeS (ownsG_below hown h (Nat.le_refl _))
        · rw [hL] at hlen; simp at hlen; omega
        simp only [Value.slice.injEq] at he
        obtain ⟨rfl, -, -⟩ := he
        exact ⟨g, rfl, hBg, hg, hc k (by omega), hf k⟩
      obtain ⟨g, rfl, hBg, -⟩ := hset wr (Below.refl _ _)
      have hcl : ∀ (W : World), Below wr.heap.size wr W → W.cell? ⟨g, k, none⟩ = some (.string ((mkP S k).getD k ⟨#[]⟩)) ∧ W.frozen? ⟨g, k, none⟩ = false := fun W h => by
        obtain ⟨g', he, h1, h2, h3, h4⟩ := hset W h
        obtain ⟨rfl, -⟩ := by simpa using he
        exact ⟨h3, h4⟩
      have HC := Lib.hid hcl
      have hst : ∀ (W : World), Below wr.heap.size wr W → ownsV (W.setCell ⟨g, k, none⟩ (.string (mkT (1 + k)))) B 9 (.slice (some ⟨g, 0, none⟩) n cap) (strV (mkP S (k + 1))) := fun W h => by
        have h5 := ownsV_set (ownsG_below hown h (Nat.le_refl _)) (by rw [hlen]; exact hn) k (mkT (1 + k))
        rw [hsu] at h5
        exact h5
      have HSt := Lib.hid hst
      generalize mkT (1 + k) = z at HT HSt
      generalize (mkP S k).getD k ⟨#[]⟩ = z0 at HC
      clear hset hcl hst hsu hlen ho hown
      go_wp2_with (first | (go_at_call 15; refine (HT.out _).mono ?_; rintro e w2 ⟨rfl, hb2⟩; have hc2 := (HC.out _ hb2).1; have hf2 := (HC.out _ hb2).2; have ho2 := HSt.out _ hb2))
      go_roundw
      case rel => exact ⟨k + 1, by omega, by go_num, by go_num, ho2, (hbw.trans (hb2.mono (Nat.le_trans hB hbw.size))).setCell hBg _⟩
      case measure => simp [intOf]; omega
    · have hkn : k = n := by omega
      subst hkn
      go_wp2
      go_ret
      exact ⟨rfl, by rw [show mkP S k = mkS k by simp [mkP, ← hn]] at hown; exact hown, hbw⟩
set_option maxHeartbeats 800000 in
theorem heldStringS_any (ao : Option Addr) (n cap : Nat) (w : World) (hr : RdV w ao (strV (mkS n))) (hm : n ≤ 1000) :
    Calls Try.prog 8 #[.slice ao n cap, .int .i64 1] w fun e w' => e = .returned (.int .i64 (1 + (n : Nat))) ∧ Below w.heap.size w w' := by
  have hl := strV_length (mkS n)
  rw [mkS_length] at hl
  have HL := Lib.hid hl
  clear hl
  go_enter Try.func8, Try.ntmps8
  go_wp2
  go_loopw [1, 5] (fun m i wr => ∃ k : Nat, k ≤ n ∧ i = .int .i64 k ∧ m = .int .i64 (1 + (k : Nat)) ∧ Below w.heap.size w wr) (fun _ i _ => n - (intOf i).toNat)
  case atStart => exact ⟨0, by omega, rfl, rfl, Below.refl _ _⟩
  case round =>
    obtain ⟨k, hle, rfl, rfl, hbw⟩ := hrel
    by_cases hlt : k < n
    · rcases RdV_below hr hbw with h | ⟨b1, o1, rfl, hb1, hc1⟩
      · have h2 := HL.out; rw [h] at h2; simp at h2; omega
      have hx := hc1 k (by rw [HL.out]; exact hlt)
      rw [strV_at _ k (by rw [mkS_length]; exact hlt), mkS_at n k hlt] at hx
      have HT := Lib.hid (fun W => by have h := markText_any (1 + k) (by omega) (by omega) W; rw [show ((1 + k : Nat) : Int) = 1 + (k : Int) by omega] at h; exact h : ∀ W, Calls Try.prog 15 #[.int .i64 (1 + (k : Int))] W fun e w' => e = .returned (.string (mkT (1 + k))) ∧ Below W.heap.size W w')
      generalize mkT (1 + k) = z at HT hx
      clear hc1 hr
      go_wp2_with fail
      go_region_held3 (fun w' => w'.cell? ⟨b1, o1 + k, none⟩ = some (.string z) ∧ Below wr.heap.size wr w') (first | assumption | exact ⟨hx, (Below.refl _ _).drew⟩ | exact ⟨(‹Below _ _ _›.cell (p := ⟨b1, o1 + k, none⟩) (by have h9 := (‹_ ∧ Below wr.heap.size wr _› : _ ∧ Below wr.heap.size wr _).2.size; show b1 < _; omega)).trans (‹_ ∧ Below wr.heap.size wr _› : _ ∧ Below wr.heap.size wr _).1, belowThen (‹_ ∧ Below wr.heap.size wr _› : _ ∧ Below wr.heap.size wr _).2 ‹Below _ _ _›⟩) (first | (go_at_call 15; refine (HT.out _).mono ?_; rintro e w2 ⟨rfl, hb5⟩))
      rename_i hH
      have hbn := hH.2
      clear hH
      go_wp2
      go_roundw
      case rel => exact ⟨k + 1, by omega, by go_num, by go_num, belowThen hbw hbn⟩
      case measure => simp [intOf]; omega
    · have hkn : k = n := by omega
      subst hkn
      go_wp2
      go_ret
      exact ⟨rfl, hbw⟩
end Go.Proofs.Ytanhhphdbahgpaa
