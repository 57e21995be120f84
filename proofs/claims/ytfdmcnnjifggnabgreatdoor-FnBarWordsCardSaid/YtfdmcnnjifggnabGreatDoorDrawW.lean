/- The draws of words and rows: what they draw are short texts and short lists, whatever the code. -/
import Derived.Test.YtfdmcnnjifggnabGreatDoorDrawG
import Derived.Test.YtfdmcnnjifggnabGreatDoorLetters
import Derived.Lib.Hide
namespace Go.Proofs.YtfdmcnnjifggnabGreatDoor
open Go.RowKit

/-- One of some values that are written out. -/
theorem of_any (c k cap : Nat) (vs : List Value) (b m : Nat) (w : World) (h : Cur w b m) (hm : m ≤ 999990) (hL : vs.length = k) (hk : 0 < k) (hk2 : k ≤ 1000) (hc : c < w.heap.size) (hcb : c ≠ b) (hr : ∀ j, j < k → w.cell? ⟨c, j, none⟩ = some (vs.getD j undef)) :
    Calls Tryz.prog 54 #[.pointer (some ⟨b, 0, none⟩), .slice (some ⟨c, 0, none⟩) k cap] w
    fun e w' => (∃ v, v ∈ vs ∧ e = .returned v) ∧ Cur w' b (m + 2) ∧ OnlyC b w w' := by
  have HN := Lib.hid (pick_any (k : Int) b m w h hm)
  have HR := Lib.hid hr
  have HL := Lib.hid hL
  clear hr hL
  go_enter Tryz.func54, Tryz.ntmps54
  go_wp2_with (
    go_at_call 45
    refine HN.out.mono ?_
    rintro e w1 ⟨⟨x, hx, hxk, rfl⟩, hc1, ho1⟩
    have hxk2 := hxk (by omega)
    have hxl : x < vs.length := by rw [HL.out]; omega
    have hcell : w1.cell? ⟨c, x, none⟩ = some (vs.getD x undef) := (ho1.cell hc hcb).trans (HR.out x (by omega))
    clear hxk)
  go_ret
  exact ⟨⟨_, List.getElem_mem hxl, rfl⟩, hc1, ho1⟩
theorem ofA (A : Array Value) (k : Nat) (T : TypeId) {w0 W : World} {b m : Nat} (h : CurO w0 W b m) (hm : m ≤ 999990) (hk : A.size = k) (hk0 : 0 < k) (hk1 : k ≤ 1000) :
    Calls Tryz.prog 54 #[.pointer (some ⟨b, 0, none⟩), .slice (some ⟨W.heap.size, 0, none⟩) k k] (W.alloc (.cells A T))
    fun e w' => (∃ v, v ∈ A.toList ∧ e = .returned v) ∧ CurO w0 w' b (m + 2) :=
  (of_any W.heap.size k k A.toList b m _ (h.alloc _).1 hm (by simpa using hk) hk0 hk1 (by simp) (by have := h.1.lt; omega) (fun j hj => by
    rw [World.cell?_alloc_at _ _ _ _ rfl]
    simp [show j < A.size by omega])).mono fun e w' k => ⟨k.1, k.2.1, (h.alloc _).2.trans k.2.2⟩
/-- A short text is returned. -/
def RetTxt (k : Nat) (e : Ending) : Prop := ∃ s : ByteArray, s.size ≤ k ∧ e = .returned (.string s)
set_option maxHeartbeats 3200000 in
theorem wordOfO {w0 W : World} {b m : Nat} (most : Int) (h : CurO w0 W b m) (hm : m ≤ 998000) : Calls Tryz.prog 34 #[.pointer (some ⟨b, 0, none⟩), .int .i64 most] W fun e w' => RetTxt 30 e ∧ CurO w0 w' b (m + 100) := by
  have hs := CurO.start h.1
  have hA1 := @cellAlloc; have hA2 := @frozenAlloc; have hA3 := @setCellAlloc; go_enter Tryz.func34, Tryz.ntmps34
  go_wp2_with (first
    | (go_at_call 46; refine (amongA _ _ _ hs (by omega) (by rfl) (by decide) (by decide) (by rfl)).mono ?_; rintro e w1 ⟨⟨z, hz, rfl⟩, hc1⟩; have hz2 : 0 ≤ z ∧ z ≤ 12 := (by simp [intOf] at hz; omega); clear hz))
  obtain ⟨k0, rfl⟩ := Int.eq_ofNat_of_zero_le hz2.1
  have hex : ∀ x, x < 16 → ((⟨#[97, 98, 99, 100, 101, 102, 104, 106, 108, 110, 111, 112, 114, 116, 117, 121]⟩ : ByteArray).extract x (x + 1)).size = 1 := fun x hx => by rw [ByteArray.size_extract]; show min (x + 1) 16 - x = 1; omega
  have HEx := Lib.hid hex
  clear hex
  go_loopw [5, 6] (fun v i wr => ∃ (k : Nat) (s : ByteArray), k ≤ 12 ∧ s.size + k ≤ 12 ∧ i = .int .i64 k ∧ v = .string s ∧ CurO W wr b (m + 30 - 2 * k)) (fun _ i _ => (intOf i).toNat)
  case atStart => exact ⟨k0, ⟨#[]⟩, by omega, by show 0 + k0 ≤ 12; omega, rfl, rfl, hc1.mono (by omega)⟩
  case round =>
    obtain ⟨k, s, hk, hsk, rfl, rfl, hcu⟩ := hrel
    clear hc1
    by_cases h0 : (0 : Int) < (k : Int) ∧ (s.size : Int) < most
    · obtain ⟨h1, h2⟩ := h0
      go_wp2_with (first
        | (go_at_call 45; refine (pickO _ hcu (by omega)).mono ?_; rintro e w2 ⟨⟨x, hx, hxn, rfl⟩, hc2⟩; have hx16 := hxn (by decide); have hxe := HEx.out x (by omega); have hx6 : ((x : Int) + 1).toNat = x + 1 := (by omega))
        | fail)
      go_roundw
      case rel => exact ⟨k - 1, _, by omega, by rw [ByteArray.size_append, hxe]; omega, by go_num, rfl, hc2.mono (by omega)⟩
      case measure => simp [intOf]; omega
    · by_cases hk0 : k = 0
      · subst hk0
        clear h0
        go_wp2_with (first
          | (go_at_call 45; first
            | (refine (pickO _ hc3 (by omega)).mono ?_; rintro e w5 ⟨⟨y, hy, hyn, rfl⟩, hc5⟩; have hy8 := hyn (by decide); have hy6 : ((6 : Int) + (y : Int)).toNat = 6 + y := (by omega))
            | (refine (pickO _ hcu (by omega)).mono ?_; rintro e w3 ⟨⟨x, hx, hxn, rfl⟩, hc3⟩))
          | (go_at_call 54; refine (ofA _ _ _ hc3 (by omega) (by rfl) (by decide) (by decide)).mono ?_; rintro e w4 ⟨⟨v, hv, rfl⟩, hc4⟩; have hv2 : ∃ t : ByteArray, t.size ≤ 7 ∧ v = .string t := (by simp at hv; rcases hv with rfl | rfl | rfl | rfl <;> exact ⟨_, by decide, rfl⟩); obtain ⟨t, ht, rfl⟩ := hv2))
        all_goals go_ret
        all_goals first
          | exact ⟨⟨_, by rw [ByteArray.size_append]; omega, rfl⟩, (h.trans hc4).mono (by omega)⟩
          | exact ⟨⟨_, by rw [ByteArray.size_extract]; show min _ 13 - _ ≤ 30; omega, rfl⟩, (h.trans hc5).mono (by omega)⟩
          | exact ⟨⟨s, by omega, rfl⟩, (h.trans hc3).mono (by omega)⟩
      · have h1 : (0 : Int) < (k : Int) := by omega
        have h2 : ¬ (s.size : Int) < most := fun h9 => h0 ⟨h1, h9⟩
        clear h0
        go_wp2_with (first
          | (go_at_call 45; first
            | (refine (pickO _ hc3 (by omega)).mono ?_; rintro e w5 ⟨⟨y, hy, hyn, rfl⟩, hc5⟩; have hy8 := hyn (by decide); have hy6 : ((6 : Int) + (y : Int)).toNat = 6 + y := (by omega))
            | (refine (pickO _ hcu (by omega)).mono ?_; rintro e w3 ⟨⟨x, hx, hxn, rfl⟩, hc3⟩))
          | (go_at_call 54; refine (ofA _ _ _ hc3 (by omega) (by rfl) (by decide) (by decide)).mono ?_; rintro e w4 ⟨⟨v, hv, rfl⟩, hc4⟩; have hv2 : ∃ t : ByteArray, t.size ≤ 7 ∧ v = .string t := (by simp at hv; rcases hv with rfl | rfl | rfl | rfl <;> exact ⟨_, by decide, rfl⟩); obtain ⟨t, ht, rfl⟩ := hv2))
        all_goals go_ret
        all_goals first
          | exact ⟨⟨_, by rw [ByteArray.size_append]; omega, rfl⟩, (h.trans hc4).mono (by omega)⟩
          | exact ⟨⟨_, by rw [ByteArray.size_extract]; show min _ 13 - _ ≤ 30; omega, rfl⟩, (h.trans hc5).mono (by omega)⟩
          | exact ⟨⟨s, by omega, rfl⟩, (h.trans hc3).mono (by omega)⟩
set_option maxHeartbeats 3200000 in
theorem rowDO {w0 W : World} {b m : Nat} (h : CurO w0 W b m) (hm : m ≤ 998000) : Calls Tryz.prog 40 #[.pointer (some ⟨b, 0, none⟩)] W fun e w' => RetOwn 7 W e w' ∧ CurO w0 w' b (m + 300) := by
  have hbB : b < W.heap.size := h.1.lt
  have hs := CurO.start h.1
  have hA1 := @cellAlloc; have hA2 := @frozenAlloc; have hA3 := @setCellAlloc; go_enter Tryz.func40, Tryz.ntmps40
  go_wp2_with (first
    | (go_at_call 46; refine (amongB _ _ _ _ (CurO.alloc hs _) (by simp) (by omega) (by rfl) (by decide) (by decide) (by rfl)).mono ?_; rintro e w1 ⟨⟨z, hz, rfl⟩, hc1⟩; have hz2 : 0 ≤ z ∧ z ≤ 6 := (by simp [intOf] at hz; omega); clear hz))
  obtain ⟨k0, rfl⟩ := Int.eq_ofNat_of_zero_le hz2.1
  go_loopw [3, 4] (fun v i wr => ∃ (k : Nat) (L : List Int), k ≤ 6 ∧ L.length + k ≤ 6 ∧ i = .int .i64 k ∧ ownsInts wr W.heap.size v L ∧ CurO W wr b (m + 200 - 20 * k)) (fun _ i _ => (intOf i).toNat)
  case atStart => exact ⟨k0, [], by omega, by show 0 + k0 ≤ 6; omega, rfl, ownsInts_zero _ _ _, hc1.mono (by omega)⟩
  case round =>
    obtain ⟨k, L, hk, hLk, rfl, hown, hcu⟩ := hrel
    have hwr := hcu.2.size
    clear hc1
    obtain ⟨ao, cap, rfl, -⟩ := ownsInts_shape hown
    by_cases h0 : k = 0
    · subst h0
      go_wp2_with (go_at_call 39; refine (oneO _ (CurO.self hcu) (by omega)).mono ?_; rintro e w5 ⟨⟨q5, rfl⟩, hc5⟩; have hcu5 := hcu.trans hc5; have hs5 := hc5.2.size; have hown5 := ownsG_onlyC hown hbB hc5.2)
      all_goals go_ret
      all_goals first
        | exact ⟨⟨_, _, [6, 6, 6, 6, 6, 6, 6], rfl, by decide, ownsInts_new w5 [6, 6, 6, 6, 6, 6, 6] W.heap.size (by omega) (by decide)⟩, ((h.trans hcu5).alloc _).mono (by omega)⟩
        | exact ⟨⟨_, _, L, rfl, by omega, hown5⟩, (h.trans hcu5).mono (by omega)⟩
    · have hpos : (0 : Int) < (k : Int) := by omega
      go_wp2_with (first
        | (go_at_call 63; refine (cellO (CurO.self hcu) (by omega)).mono ?_; rintro e w2 ⟨⟨x, rfl⟩, hc2⟩; have hown2 := ownsG_onlyC hown hbB hc2.2; have hcu2 := hcu.trans hc2; have hs2 := hc2.2.size)
        | (at_builtin; refine wpAppendInt w2 (by rfl) _ _ (by rfl) W.heap.size _ _ (by rfl) hown2 x (by rfl) (by omega) (by omega) ?_; intro co cc w4 hv4 hb4; have hcu4 := hcu2.appended hb4 (Nat.le_refl _) hbB (by omega)))
      go_roundw
      case rel => exact ⟨k - 1, L ++ [x], by omega, by simp; omega, by go_num, hv4, hcu4.mono (by omega)⟩
      case measure => simp [intOf]; omega
set_option maxHeartbeats 1600000 in
theorem numberO {w0 W : World} {b m : Nat} (h : CurO w0 W b m) (hm : m ≤ 998000) : Calls Tryz.prog 44 #[.pointer (some ⟨b, 0, none⟩)] W fun e w' => (∃ x : Int, e = .returned (.int .i64 x)) ∧ CurO w0 w' b (m + 40) := by
  go_enter Tryz.func44, Tryz.ntmps44
  go_wp2_with (first
    | (go_at_call 45; refine (pickO _ (by assumption) (by omega)).mono ?_; rintro e w' ⟨⟨x, hx, hxn, rfl⟩, hc⟩; clear hxn)
    | (go_at_call 46; refine (amongA _ _ _ (by assumption) (by omega) (by rfl) (by decide) (by decide) (by rfl)).mono ?_; rintro e w' ⟨⟨z, hz, rfl⟩, hc⟩))
  go_ret
  exact ⟨⟨_, rfl⟩, CurO.mono (by assumption) (by omega)⟩
end Go.Proofs.YtfdmcnnjifggnabGreatDoor
