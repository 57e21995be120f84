/- Contracts of the functions that give the cells of a word. -/
import Derived.Test.YtfdmcnnjifggnabGreatDoorWord
import Derived.Test.YtfdmcnnjifggnabGreatDoorLetters
import Derived.Lib.Hide
import Derived.Deep.AppendLies
import Derived.Deep.RegionLaw
namespace Go.Proofs.YtfdmcnnjifggnabGreatDoor
open Go.RowKit

def placeN (b : Nat) : Nat := abcN.idxOf b
theorem place_of {b : Nat} (h : isL b = true) : placeI b = ((placeN b : Nat) : Int) ∧ placeN b < 16 := by
  refine ⟨by unfold placeI; rw [if_pos h]; rfl, ?_⟩
  unfold isL at h
  exact List.idxOf_lt_length_of_mem (by simpa using h)
/-- The cells of a word. -/
def rowW (s : ByteArray) : List Int := s.data.toList.map fun b => ((letC (placeN b.toNat) : Nat) : Int)
theorem rowW_length (s : ByteArray) : (rowW s).length = s.size := by unfold rowW; rw [List.length_map]; exact size_len s
theorem rowW_at (s : ByteArray) (k : Nat) (h : k < s.size) : (rowW s).getD k 0 = ((letC (placeN (s[k]'h).toNat) : Nat) : Int) := by
  unfold rowW
  rw [List.getD_eq_getElem?_getD, List.getElem?_map, List.getElem?_eq_getElem (by rw [size_len]; exact h), at_list]
  rfl
theorem rowW_mem (s : ByteArray) : ∀ x ∈ rowW s, inB 0 127 x = true := by
  intro x hx
  unfold rowW at hx
  rw [List.mem_map] at hx
  obtain ⟨b, _, rfl⟩ := hx
  have := letC_lt (placeN b.toNat)
  rw [inB_iff]; omega
theorem isL_at {s : ByteArray} (h : allIn s = true) (k : Nat) (hk : k < s.size) : isL (s[k]'hk).toNat = true := by
  unfold allIn at h
  rw [List.all_eq_true] at h
  exact h _ (by rw [at_list]; exact List.getElem_mem _)
set_option maxHeartbeats 800000 in
theorem l10Row_any (s : ByteArray) (hs : s.size ≤ 1000) (hall : allIn s = true) (w : World) : Calls Tryz.prog 38 #[.string s] w (RetIntsL (rowW s) w) := by
  have HAll := Lib.hid (fun k hk => isL_at hall k hk)
  have hL := rowW_length s
  have HAt := Lib.hid (fun k h => rowW_at s k h)
  generalize rowW s = L at hL HAt ⊢
  have HL := Lib.hid hL
  clear hall hL
  have hA1 := @cellAlloc; have hA2 := @frozenAlloc; have hA3 := @setCellAlloc; go_enter Tryz.func38, Tryz.ntmps38
  go_wp2
  go_loopw [3, 4] (fun v i wr => ∃ k : Nat, k ≤ s.size ∧ i = .int .i64 k ∧ ownsInts wr w.heap.size v (L.take k) ∧ Below w.heap.size w wr) (fun _ i _ => s.size - (intOf i).toNat)
  case atStart => exact ⟨0, by omega, rfl, ownsInts_zero _ _ _, Go.Joins.below_alloc1 _ _⟩
  case round =>
    obtain ⟨k, hk, rfl, hown, hbw⟩ := hrel
    by_cases hlt : k < s.size
    · have hd : decide ((k : Int) < (s.size : Int)) = true := by simp; omega
      have hp := place_of (HAll.out k hlt)
      have hsucc := take_succI L k (by rw [HL.out]; exact hlt)
      rw [HAt.out k hlt] at hsucc
      have hlen : (L.take k).length = k := by rw [List.length_take, HL.out]; omega
      have HP := Lib.hid (fun W => by have h := l10Place_any (s[k]'hlt) W; rw [hp.1] at h; exact h : ∀ W, Calls Tryz.prog 62 #[.int .u8 (s[k]'hlt).toNat] W fun e w' => e = .returned (.int .i64 (placeN (s[k]'hlt).toNat : Nat)) ∧ W = w')
      have HO := Lib.hid (fun W => l10Of_any (placeN (s[k]'hlt).toNat) hp.2 W)
      have hp2 := hp.2
      clear hp
      generalize placeN (s[k]'hlt).toNat = p at HP HO hsucc hp2
      generalize letC p = x at hsucc HO
      have HS := Lib.hid hsucc
      clear hsucc
      generalize L.take k = T at HS hown hlen
      go_wp2_with (first | (go_at_call 62; refine (HP.out _).mono ?_; rintro e w' ⟨rfl, rfl⟩) | (go_at_call 61; refine (HO.out _).mono ?_; rintro e w2 ⟨rfl, hb2⟩) | (at_builtin; go_must (refine wpAppendInt w2 (by rfl) _ _ (by rfl) w.heap.size _ _ (by rfl) (ownsInts_below hown hb2 (Nat.le_refl _)) (x : Int) (by rfl) (by omega) (Nat.le_trans hbw.size hb2.size) ?_; intro co cc w4 hv4 hb4)))
      go_roundw
      case rel => exact ⟨k + 1, by omega, by go_num, by rw [HS.out]; rw [hlen] at hv4; exact hv4, (belowThen hbw hb2).trans hb4⟩
      case measure => simp [intOf]; omega
    · have hks : k = s.size := by omega
      rw [List.take_of_length_le (by rw [HL.out]; omega)] at hown
      obtain ⟨co, cc, rfl, -⟩ := ownsInts_shape hown
      subst hks
      go_wp2
      go_ret
      exact ⟨co, cc, rfl, hown, hbw⟩
theorem indexB_fact : ∀ b : Fin 256, isL b.val = true → Lib.indexByte abcB.data.toList (UInt8.ofNat b.val) = ((placeN b.val : Nat) : Int) := by decide +kernel
set_option maxHeartbeats 800000 in
theorem IndexByte_any (b : UInt8) (hb : isL b.toNat = true) (w : World) : Calls Tryz.prog 74 #[.string abcB, .int .u8 b.toNat] w fun e w' => e = .returned (.int .i64 (placeN b.toNat : Nat)) ∧ w = w' := by
  have h := indexB_fact ⟨b.toNat, b.toNat_lt⟩ hb
  simp only at h
  have HC := Lib.hid (fun W => by have h2 := stringslite_IndexByte abcB b.toNat W; rw [Int.toNat_natCast, show b.toNat.toUInt8 = UInt8.ofNat b.toNat from rfl, h] at h2; exact h2 : ∀ W, Calls Tryz.prog 100 #[.string abcB, .int .u8 b.toNat] W fun e w' => e = .returned (.int .i64 (placeN b.toNat : Nat)) ∧ W = w')
  generalize placeN b.toNat = p at HC ⊢
  generalize abcB = S at HC ⊢
  clear h
  go_enter Tryz.func74, Tryz.ntmps74
  go_wp2_with (first | (go_at_call 100; refine (HC.out _).mono ?_; rintro e w' ⟨rfl, rfl⟩))
  go_ret
  exact ⟨rfl, rfl⟩
set_option maxHeartbeats 1600000 in
set_option maxRecDepth 100000 in
theorem rowOfWord_any (s : ByteArray) (hs : s.size ≤ 1000) (hall : allIn s = true) (w : World) : Calls Tryz.prog 36 #[.string s] w (RetIntsL (rowW s) w) := by
  have HAll := Lib.hid (fun k hk => isL_at hall k hk)
  have hL := rowW_length s
  have HAt := Lib.hid (fun k h => rowW_at s k h)
  generalize rowW s = L at hL HAt ⊢
  have HL := Lib.hid hL
  obtain ⟨i0, hi, hz0, hz1, hz2⟩ := info_parts infoInt
  clear hall hL
  have hA1 := @cellAlloc; have hA2 := @frozenAlloc; have hA3 := @setCellAlloc; go_enter Tryz.func36, Tryz.ntmps36
  go_wp2
  go_loopw [3, 7] (fun v i wr => ∃ k : Nat, k ≤ s.size ∧ i = .int .i64 k ∧ wr.ownsRow w.heap.size 3 1 v k ((L.take k).map (Value.int .i64)) ∧ Below w.heap.size w wr) (fun _ i _ => s.size - (intOf i).toNat)
  case atStart => exact ⟨0, by omega, rfl, World.ownsRow_nil _ _ _ _, Below.refl _ _⟩
  case round =>
    obtain ⟨k, hk, rfl, hown, hbw⟩ := hrel
    by_cases hlt : k < s.size
    · have hd : decide ((k : Int) < (s.size : Int)) = true := by simp; omega
      have hL1 := HAll.out k hlt
      have hp := place_of hL1
      have hsucc := take_succI L k (by rw [HL.out]; exact hlt)
      rw [HAt.out k hlt] at hsucc
      have HI := Lib.hid (fun W => IndexByte_any (s[k]'hlt) hL1 W)
      have hp2 := hp.2
      clear hp hL1
      have HG := Lib.hid (letL_getD (placeN (s[k]'hlt).toNat))
      generalize placeN (s[k]'hlt).toNat = p at HI hsucc hp2 HG
      generalize letC p = x at hsucc HG
      have HS := Lib.hid (show (L.take (k + 1)).map (Value.int .i64) = (L.take k).map (Value.int .i64) ++ [Value.int .i64 (x : Int)] by rw [hsucc]; simp)
      clear hsucc
      have HL16 := Lib.hid (fun W => (letterCells_any W).mono fun e w' h => (by
        obtain ⟨ao, ca, h1, h2, h3⟩ := h
        obtain ⟨ao', cap', he, h0 | ⟨g, rfl, _, hg, _, hc⟩⟩ := ownsInts_shape h2
        · exact absurd (congrArg List.length h0) (by rw [letL_length]; decide)
        · simp only [Value.slice.injEq] at he
          obtain ⟨rfl, -, -⟩ := he
          exact ⟨g, ca, h1, by have h5 := hc p (by rw [letL_length]; exact hp2); rw [HG.out] at h5; exact h5, h3⟩ : ∃ g ca, e = .returned (.slice (some ⟨g, 0, none⟩) 16 ca) ∧ w'.cell? ⟨g, p, none⟩ = some (.int .i64 x) ∧ Below W.heap.size W w'))
      have hp3 : (p : Int) < 16 := by omega
      generalize (L.take k).map (Value.int .i64) = T at HS hown
      go_wp2_with fail
      go_region_law (first | (refine step_append_lies _ (by rfl) _ _ _ (by rfl) w.heap.size 3 i0 (.int .i64 0) 1 8 Tryz.underlying25 hi hz0 hz1 hz2 rfl (by decide) _ k T (by rfl) (by refine World.ownsRow.alloc ?_ _; exact ownsRow_below hown (by (repeat (first | assumption | exact Below.refl _ _ | refine belowThen ?_ (Go.Joins.below_alloc1 _ _) | apply Below.drew | refine belowThen ?_ (by assumption) | refine belowThen ?_ (Go.Joins.below_draws _ _ _) | refine Below.setCell ?_ (by first | exact Nat.le_refl _ | (simp; done) | (simp; omega)) _))) (Nat.le_refl _)) _ 1 1 [.int .i64 x] (by rfl) rfl (by intro j u hu; rw [Addr.add_lit, World.cell?_alloc_at _ _ _ _ rfl]; simpa using hu) (by simp [Value.oneCell']) (by decide) (by unfold maxLen; omega) (by omega) (by have h1 := hbw.size; have h2 := hb4.size; simp at h2 ⊢; omega) _ rfl ?_; intro g5 cap5 w5 hown5 hgrow5 hat5 hlt5) | (go_simp; go_at_call 65; refine (HL16.out _).mono ?_; rintro e w4 ⟨g4, ca, rfl, hc4, hb4⟩) | (go_simp; go_at_call 74; refine (HI.out _).mono ?_; rintro e w' ⟨rfl, rfl⟩))
      all_goals
        go_wp2
        go_roundw
        case rel => exact ⟨k + 1, by omega, by go_num, by rw [HS.out]; exact hown5, (by (repeat (first | assumption | exact Below.refl _ _ | refine belowThen ?_ (Go.Joins.below_alloc1 _ _) | apply Below.drew | refine belowThen ?_ (by assumption) | refine belowThen ?_ (Go.Joins.below_draws _ _ _) | refine Below.setCell ?_ (by first | exact Nat.le_refl _ | (simp; done) | (simp; omega)) _)) : Below w.heap.size w _).grown hgrow5 (by have h1 := hbw.size; have h2 := hb4.size; simp at h2 ⊢; omega) fun k hk => (World.ownsRow.lt hown k hk).1⟩
        case measure => simp [intOf]; omega
    · have hks : k = s.size := by omega
      rw [List.take_of_length_le (by rw [HL.out]; omega)] at hown
      subst hks
      obtain ⟨co, cc, hv, -⟩ := ownsInts_shape (show ownsInts wr w.heap.size _ L from .inl (by rw [HL.out]; exact hown))
      subst hv
      go_wp2
      go_ret
      exact ⟨co, cc, by rw [HL.out]; rfl, .inl (by rw [HL.out] at hown ⊢; exact hown), hbw⟩
end Go.Proofs.YtfdmcnnjifggnabGreatDoor
