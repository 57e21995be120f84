/- The contract of slices.Delete of one Slot out of a slice of the call's own. -/
import Derived.Test.YtjcbffkdemadnaaAppSl
import Derived.Lib.Hide
import Derived.Deep.RegionLaw
import Derived.WalkKit
namespace Go.Proofs.Ytjcbffkdemadnaa
open Go.RowKit

/-- Values laid into a list from a place on. -/
def laidL {α : Type} (xs : List α) : Nat → List α → List α
  | _, [] => xs
  | s, v :: r => laidL (xs.set s v) (s + 1) r
theorem laidL_eq {α : Type} (vs : List α) : ∀ (xs : List α) (s : Nat), s + vs.length ≤ xs.length → laidL xs s vs = xs.take s ++ vs ++ xs.drop (s + vs.length) := by
  induction vs with
  | nil => intro xs s _; simp [laidL]
  | cons v r ih =>
    intro xs s h
    simp only [List.length_cons] at h
    unfold laidL
    rw [ih _ _ (by simp; omega)]
    have e1 : (xs.set s v).take (s + 1) = xs.take s ++ [v] := by
      rw [List.take_set, List.take_add_one, List.getElem?_eq_getElem (by omega)]
      simp only [Option.toList_some]
      rw [List.set_append_right _ _ (by simp; omega)]
      have : s - (xs.take s).length = 0 := by simp; omega
      rw [this]
      rfl
    have e2 : (xs.set s v).drop (s + 1 + r.length) = xs.drop (s + (r.length + 1)) := by
      rw [List.drop_set, if_pos (by omega)]
      congr 1
      omega
    rw [e1, e2]
    simp
theorem OnlyB_one {g : Nat} (w : World) (j : Nat) (v : Value) : OnlyB 1 g w (w.setCell ⟨g, j, none⟩ v) := OnlyB_set ⟨rfl, fun _ _ => rfl⟩ (by omega) j v
theorem OnlyB_trans {n g : Nat} {a b c : World} (h : OnlyB n g a b) (h2 : OnlyB n g b c) : OnlyB n g a c := ⟨h2.1.trans h.1, fun k hk => (h2.2 k hk).trans (h.2 k hk)⟩
theorem owns_setCells {B g n cap size : Nat} {e : TypeId} (hB : B ≤ g) (vs : List Value) : ∀ (s : Nat) (w : World) (xs : List Value), w.ownsRow B e size (.slice (some ⟨g, 0, none⟩) n cap) n xs →
    (w.setCells g s vs).ownsRow B e size (.slice (some ⟨g, 0, none⟩) n cap) n (laidL xs s vs) ∧ OnlyB 1 g w (w.setCells g s vs) ∧ Below B w (w.setCells g s vs) := by
  induction vs with
  | nil => intro s w xs h; exact ⟨h, ⟨rfl, fun _ _ => rfl⟩, Below.refl _ _⟩
  | cons v r ih =>
    intro s w xs h
    obtain ⟨h1, h2, h3⟩ := ih (s + 1) _ _ (World.ownsRow.stored h s v).1
    exact ⟨h1, OnlyB_trans (OnlyB_one w s v) h2, ((Below.refl B w).setCell (by exact hB) v).trans h3⟩
/-- A shorter slice of an owned row. -/
theorem ownsRow_cut2 {w : World} {B : Nat} {e : TypeId} {g n cap m : Nat} {xs : List Value} (h : w.ownsRow B e 2 (.slice (some ⟨g, 0, none⟩) n cap) n xs) (hm : m ≤ n) : w.ownsRow B e 2 (.slice (some ⟨g, 0, none⟩) m cap) m (xs.take (m * 2)) := by
  obtain ⟨hl, h0 | ⟨g', cap', cur, hv, hB, hg, h1, h2, h3, h4⟩⟩ := h
  · cases h0.1
  · cases hv
    refine ⟨by rw [List.length_take, hl]; omega, .inr ⟨g, cap, cur, rfl, hB, hg, by omega, h2, h3, ?_⟩⟩
    have := congrArg (List.take (m * 2)) h4
    rw [List.take_take, Nat.min_eq_left (by omega)] at this
    exact this
theorem ownsRow_cells2 {w : World} {B : Nat} {e : TypeId} {g n cap : Nat} {xs : List Value} (h : w.ownsRow B e 2 (.slice (some ⟨g, 0, none⟩) n cap) n xs) : n ≤ cap ∧ B ≤ g ∧ g < w.heap.size ∧ (∀ j, j < n * 2 → w.cell? ⟨g, j, none⟩ = xs[j]?) ∧ (∀ j, w.frozen? ⟨g, j, none⟩ = false) := by
  have h2 := h
  rcases h.2 with ⟨h0, _⟩ | ⟨g', cap', cur, hv, hB, hg, hnc, _⟩
  · cases h0
  · cases hv
    exact ⟨hnc, hB, (Array.getElem?_eq_some_iff.1 hg).1, fun j hj => World.ownsRow.cellAt h2 j hj, fun j => World.ownsRow.frozenAt h2 j⟩
theorem run_clear_slot (w : World) (ty : TypeId) (b o c : Nat) (hc : ∀ j, j < 2 → (w.cell? ⟨b, o + j, none⟩).isSome = true) (hf : ∀ j, j < 2 → w.frozen? ⟨b, o + j, none⟩ = false) :
    (Builtin.clear_ #[24] ty #[.slice (some ⟨b, o, none⟩) 1 c]).run Try.prog w = .ok (.tuple #[]) (w.setCells b o [.int .i64 0, .int .i64 0]) := by
  have hv : ∀ w, (zeroValue 48).run Try.prog w = .ok (.agg #[.int .i64 0, .int .i64 0]) w := fun w => by
    obtain ⟨i0, hi, hz0, _, _⟩ := info_parts infoSlot
    simp [zeroValue, typeInfo, hi, hz0]
  have hst := run_storeCells_cells (P := Try.prog) b o [.int .i64 0, .int .i64 0] 0 w (by simpa using hc) (by simpa using hf) (by intro v hv'; simp at hv'; rw [hv']; rfl)
  simp only [Nat.add_zero] at hst
  have hzc : (Builtin.zeroCells (Value.agg #[.int .i64 0, .int .i64 0]).cells 1).toList = [.int .i64 0, .int .i64 0] := by simp [Builtin.zeroCells, Value.cells, List.range_succ]
  simp [Builtin.clear_, run_underlying Try.underlying24, hv, hzc, hst]
set_option maxHeartbeats 4000000 in
set_option maxRecDepth 1000000 in
theorem DeleteS_any (B g n cap i j : Nat) (l : List (Int × Int)) (w : World) (ho : ownsS w B (.slice (some ⟨g, 0, none⟩) n cap) l) (hn : l.length = n) (hi : i < n) (hj : j = i + 1) (hm : cap ≤ 9223372036854775807) :
    Calls Try.prog 61 #[.slice (some ⟨g, 0, none⟩) n cap, .int .i64 i, .int .i64 j] w fun e w' => e = .returned (.slice (some ⟨g, 0, none⟩) (n - 1) cap) ∧ ownsS w' B (.slice (some ⟨g, 0, none⟩) (n - 1) cap) (l.eraseIdx i) ∧ OnlyB 1 g w w' ∧ Below B w w' := by
  obtain ⟨i0, hi0, hz0, hz1, hz2⟩ := info_parts infoSlot
  have hrow : w.ownsRow B 48 2 (.slice (some ⟨g, 0, none⟩) n cap) n (cellsS l) := by
    rcases ho with h | ⟨h0, _⟩
    · rw [hn] at h; exact h
    · omega
  have hrd : w.drew.ownsRow B 48 2 (.slice (some ⟨g, 0, none⟩) n cap) n (cellsS l) := hrow
  obtain ⟨hnc, hBg, hgl, hcell, hfr⟩ := ownsRow_cells2 hrd
  have hcl := cellsS_length l
  obtain ⟨news, hnews⟩ : ∃ news, news = cellsS (l.drop j) := ⟨_, rfl⟩
  have hlen : news.length = (n - j) * 2 := by rw [hnews, cellsS_length]; simp [hn]
  obtain ⟨h1, h2, h3⟩ := owns_setCells hBg news (i * 2) w.drew (cellsS l) hrd
  obtain ⟨W1, hW1⟩ : ∃ W1, W1 = w.drew.setCells g (i * 2) news := ⟨_, rfl⟩
  rw [← hW1] at h1 h2 h3
  obtain ⟨k1, k2, k3⟩ := owns_setCells hBg [.int .i64 0, .int .i64 0] ((n - 1) * 2) W1 _ h1
  obtain ⟨_, _, _, hcell1, hfr1⟩ := ownsRow_cells2 h1
  have hfin := ownsRow_cut2 k1 (show n - 1 ≤ n by omega)
  have hxl : (laidL (cellsS l) (i * 2) news).length = n * 2 := by
    rw [laidL_eq _ _ _ (by rw [hcl, hlen]; omega)]; simp [hcl, hlen, hn]; omega
  have hsplit : cellsS l = cellsS (l.take i) ++ cellsS (l.drop i) := by rw [← cellsS_append, List.take_append_drop]
  have htk : (cellsS l).take (i * 2) = cellsS (l.take i) := by
    rw [hsplit]
    have : (cellsS (l.take i)).length = i * 2 := by rw [cellsS_length]; simp; omega
    rw [← this, List.take_left]
  have hxs : (laidL (laidL (cellsS l) (i * 2) news) ((n - 1) * 2) [.int .i64 0, .int .i64 0]).take ((n - 1) * 2) = cellsS (l.eraseIdx i) := by
    rw [laidL_eq _ _ _ (by rw [hxl]; simp only [List.length_cons, List.length_nil]; omega)]
    rw [List.append_assoc, List.take_left' (by rw [List.length_take, hxl]; omega)]
    rw [laidL_eq _ _ _ (by rw [hcl, hlen]; omega), htk, List.eraseIdx_eq_take_drop_succ, ← hj, cellsS_append, ← hnews]
    rw [List.take_left' (by rw [List.length_append, cellsS_length, hlen, List.length_take, hn]; omega)]
  rw [hxs] at hfin
  obtain ⟨A, hA, hsrc⟩ : ∃ A : Addr, (if cap = j then some (⟨g, 0, none⟩ : Addr) else some ⟨g, j * 2, none⟩) = some A ∧ Hid (∀ t u, news[t]? = some u → w.drew.cell? (A.add t) = some u) := by
    by_cases h : cap = j
    · refine ⟨⟨g, 0, none⟩, by simp [h], fun t u hu => ?_⟩
      have h0 : news.length = 0 := by rw [hlen]; omega
      rw [List.length_eq_zero_iff.1 h0] at hu
      simp at hu
    · refine ⟨⟨g, j * 2, none⟩, by simp [h], fun t u hu => ?_⟩
      have ht : t < (n - j) * 2 := by rw [← hlen]; exact (List.getElem?_eq_some_iff.1 hu).1
      rw [Addr.add_lit, hcell _ (by omega), ← hu, hnews]
      have hs2 : cellsS l = cellsS (l.take j) ++ cellsS (l.drop j) := by rw [← cellsS_append, List.take_append_drop]
      have hl2 : (cellsS (l.take j)).length = j * 2 := by rw [cellsS_length]; simp; omega
      rw [hs2, List.getElem?_append_right (by omega), hl2]
      congr 1
      omega
  have s1 : Hid (news.length = (n - j) * 2) := hlen
  have s2 : Hid (∀ u ∈ news, u.oneCell' = true) := by rw [hnews]; exact cellsS_one _
  have s3 : Hid (∀ t, t < news.length → (w.drew.cell? ⟨g, 0 + i * 2 + t, none⟩).isSome = true ∧ w.drew.frozen? ⟨g, 0 + i * 2 + t, none⟩ = false) := by
    intro t ht
    rw [hlen] at ht
    rw [Nat.zero_add, hcell _ (by omega), List.getElem?_eq_getElem (by rw [hcl]; omega)]
    exact ⟨rfl, hfr _⟩
  have hcl2 : ∀ ty, (Builtin.clear_ #[24] ty #[.slice (some ⟨g, (i + (n - j)) * 2, none⟩) (n - (i + (n - j))) (cap - (i + (n - j)))]).run Try.prog W1 = .ok (.tuple #[]) (W1.setCells g ((n - 1) * 2) [.int .i64 0, .int .i64 0]) := by
    intro ty
    rw [show i + (n - j) = n - 1 by omega, show n - (n - 1) = 1 by omega]
    refine run_clear_slot W1 ty g ((n - 1) * 2) _ (fun t ht => ?_) fun t ht => hfr1 _
    rw [hcell1 _ (by omega), List.getElem?_eq_getElem (by rw [hxl]; omega)]
    rfl
  have hW : Hid (W1 = w.drew.setCells g (0 + i * 2) news) := by rw [Nat.zero_add]; exact hW1
  have hic : i ≤ cap := by omega
  have hjc : j ≤ cap := by omega
  have HF := Lib.hid hfin
  have HO := Lib.hid (OnlyB_trans (a := w) (show OnlyB 1 g w W1 from h2) k2)
  have HBl := Lib.hid (Below.trans (show Below B w W1 from ((Below.refl B w).drew).trans h3) k3)
  have HN := Lib.hid hn
  have hij : i < j := by omega
  have hjn : j ≤ n := by omega
  have hne : ((i : Int) == (j : Int)) = false := by rw [beq_eq_false_iff_ne]; omega
  have HJ := Lib.hid hj
  clear hj
  clear hfin hxs hsplit htk hxl hrow hrd hcell hfr hcl hnews hlen h1 h2 h3 k1 k2 k3 hcell1 hfr1 hW1 ho hn
  go_enter Try.func61, Try.ntmps61
  go_wp2_with fail
  go_region_law (refine step_append_room rfl (.tmp 22) (.tmp 25) 24 rfl 48 i0 2 Try.underlying24 hi0 hz1 g 0 i cap (by simp [Act.eval, Act.put]) A (n - j) (cap - j) news (by simp [Act.eval, Act.put]) s1.out hsrc.out s2.out (by omega) s3.out ?_; rw [← hW.out])
  go_wp2
  go_ret
  have e1 : i + (n - j) = n - 1 := by have := HJ.out; omega
  have e2 : (l.eraseIdx i).length = n - 1 := by rw [List.length_eraseIdx, if_pos (by rw [HN.out]; exact hi), HN.out]
  exact ⟨by rw [← e1]; rfl, .inl (by rw [e2]; exact HF.out), HO.out, HBl.out⟩
end Go.Proofs.Ytjcbffkdemadnaa
