/- Contracts of the functions that give the word that a number turns to. -/
import Derived.Test.YtfdmcnnjifggnabGreatDoorMirW
import Derived.Test.YtfdmcnnjifggnabGreatDoorRowM
namespace Go.Proofs.YtfdmcnnjifggnabGreatDoor
open Go.RowKit

def wnB (k : Int) : Bool := inB 0 999999 k && spellB (backL turC (rowN k.toNat))
def wnS (k : Int) : ByteArray := if inB 0 999999 k = true then spellS (backL turC (rowN k.toNat)) else ⟨#[]⟩
theorem rowN_short (u : Nat) (h : u < 1000000) : (rowN u).length ≤ 6 := by
  have := (digL_length u 6 (by omega) h).1
  simpa [rowN] using this
theorem enters_tur : ∀ (args : Array Value) (W : World), (callFunc 50 args).run Tryz.prog W = .ok (.enter 50 args) W := fun _ _ => by simp [go_sem, Tryz.func50]
theorem isNumber_any (k : Int) (w : World) : Calls Tryz.prog 47 #[.int .i64 k] w fun e w' => e = .returned (.bool (inB 0 999999 k)) ∧ w = w' := by
  go_enter Tryz.func47, Tryz.ntmps47
  go_wp2_with (go_at_call 79; refine (within_any _ _ _ _).mono ?_; rintro e w' ⟨rfl, rfl⟩)
  go_ret
  exact ⟨rfl, rfl⟩
set_option maxHeartbeats 800000 in
set_option maxRecDepth 100000 in
theorem WordOfNumberS_any (k : Int) (w : World) : Calls Tryz.prog 14 #[.int .i64 k] w fun e w' => e = .returned (.tuple #[.string (wnS k), .bool (wnB k)]) ∧ Below w.heap.size w w' := by
  unfold wnB wnS
  generalize hq : inB 0 999999 k = q
  have HQ := Lib.hid hq
  rcases q with _ | _
  · rw [if_neg (by decide), Bool.false_and]
    clear hq
    have hA1 := @cellAlloc; have hA2 := @frozenAlloc; have hA3 := @setCellAlloc; go_enter Tryz.func14, Tryz.ntmps14
    go_wp2_with (first | (go_at_call 51; refine (l1In_any _ _ _ _).mono ?_; rw [HQ.out]; rintro e w' ⟨rfl, rfl⟩))
    go_ret2
    exact ⟨rfl, Below.refl _ _⟩
  · rw [if_pos rfl, Bool.true_and]
    rw [inB_iff] at hq
    obtain ⟨u, rfl⟩ : ∃ u : Nat, k = (u : Int) := ⟨k.toNat, by omega⟩
    rw [Int.toNat_natCast]
    have hu : u < 1000000 := by omega
    have HR := Lib.hid (fun W => l2RowOf_any u hu W)
    have hl := rowN_short u hu
    have hm := rowN_cells u
    generalize rowN u = L at HR hl hm ⊢
    have HB := Lib.hid (fun ao ca W h => l2TurnRow_any ao L.length ca L W h rfl (by omega) hm)
    have hbl := backL_length turC L
    have HS := Lib.hid (fun ao ca W h => l10Spelt_any ao (backL turC L).length ca (backL turC L) W h rfl (by omega))
    generalize backL turC L = M at HB HS hbl ⊢
    generalize spellS M = r at HS ⊢
    generalize spellB M = q at HS ⊢
    clear hq hm hl hbl
    have hA1 := @cellAlloc; have hA2 := @frozenAlloc; have hA3 := @setCellAlloc; go_enter Tryz.func14, Tryz.ntmps14
    go_wp2_with (first | (go_at_call 51; refine (l1In_any _ _ _ _).mono ?_; rw [HQ.out]; rintro e w' ⟨rfl, rfl⟩) | (go_at_call 53; refine (HR.out _).mono ?_; rintro e w2 ⟨ao, ca, rfl, hown, hb2⟩) | (go_at_call 52; refine (HB.out _ _ _ (RdI_owns hown)).mono ?_; rintro e w3 ⟨bo, cb, rfl, hown3, hb3⟩) | (go_at_call 43; refine (HS.out _ _ _ (RdI_owns hown3)).mono ?_; rintro e w4 ⟨rfl, hb4⟩))
    go_ret2
    exact ⟨rfl, by (repeat (first | assumption | exact Below.refl _ _ | refine belowThen ?_ (Go.Joins.below_alloc1 _ _) | apply Below.drew | refine belowThen ?_ (by assumption) | refine belowThen ?_ (Go.Joins.below_draws _ _ _) | refine Below.setCell ?_ (by first | exact Nat.le_refl _ | (simp; done) | (simp; omega)) _))⟩
set_option maxHeartbeats 800000 in
set_option maxRecDepth 100000 in
theorem WordOfNumberI_any (k : Int) (w : World) (htab : Lib.TabIs Tryz.prog w "internal/strconv.uint64pow10" .u64 Lib.pow10Tab) : Calls Tryz.prog 13 #[.int .i64 k] w fun e w' => e = .returned (.tuple #[.string (wnS k), .bool (wnB k)]) ∧ Below w.heap.size w w' := by
  unfold wnB wnS
  generalize hq : inB 0 999999 k = q
  have HQ := Lib.hid hq
  rcases q with _ | _
  · rw [if_neg (by decide), Bool.false_and]
    clear hq
    have hA1 := @cellAlloc; have hA2 := @frozenAlloc; have hA3 := @setCellAlloc; go_enter Tryz.func13, Tryz.ntmps13
    go_wp2_with (first | (go_at_call 47; refine (isNumber_any _ _).mono ?_; rw [HQ.out]; rintro e w' ⟨rfl, rfl⟩))
    go_ret2
    exact ⟨rfl, Below.refl _ _⟩
  · rw [if_pos rfl, Bool.true_and]
    rw [inB_iff] at hq
    obtain ⟨u, rfl⟩ : ∃ u : Nat, k = (u : Int) := ⟨k.toNat, by omega⟩
    rw [Int.toNat_natCast]
    have hu : u < 1000000 := by omega
    have HR := Lib.hid (rowOf_any u hu w htab)
    have hl := rowN_short u hu
    have hm := rowN_cells u
    generalize rowN u = L at HR hl hm ⊢
    have HB := Lib.hid (fun ao ca W h => backwards_any 50 turC turC_lt ao L.length ca L W h rfl (by omega) hm enters_tur (fun c W hc => turned_any c hc W))
    have hbl := backL_length turC L
    have hrb := rowB_of (L := backL turC L) (by omega) (backL_mem turC turC_lt L)
    have HS := Lib.hid (fun ao ca W h (hc : (backL turC L).length ≤ ca) => by have h2 := WordOfRowI_any ao (backL turC L).length ca (backL turC L) W h rfl (by unfold maxLen; omega) hc; unfold worS worB at h2; rw [hrb, if_pos rfl, Bool.true_and] at h2; exact h2 : ∀ (ao : Option Addr) (ca : Nat) (W : World), RdI W ao (backL turC L) → (backL turC L).length ≤ ca → Calls Tryz.prog 10 #[.slice ao (backL turC L).length ca] W fun e w' => e = .returned (.tuple #[.string (spellS (backL turC L)), .bool (spellB (backL turC L))]) ∧ Below W.heap.size W w')
    generalize backL turC L = M at HB HS hbl ⊢
    generalize spellS M = r at HS ⊢
    generalize spellB M = q at HS ⊢
    have HCap := Lib.hid (fun (W : World) (B : Nat) (ao : Option Addr) (ca : Nat) (h : ownsInts W B (.slice ao M.length ca) M) => (by
      obtain ⟨ao', cap', he, h0 | ⟨g, _, _, _, hc, _⟩⟩ := ownsInts_shape h
      · rw [h0]; exact Nat.zero_le _
      · simp only [Value.slice.injEq] at he
        omega : M.length ≤ ca))
    clear hq hm hrb hl hbl htab
    have hA1 := @cellAlloc; have hA2 := @frozenAlloc; have hA3 := @setCellAlloc; go_enter Tryz.func13, Tryz.ntmps13
    go_wp2_with (first | (go_at_call 47; refine (isNumber_any _ _).mono ?_; rw [HQ.out]; rintro e w' ⟨rfl, rfl⟩) | (go_at_call 49; refine HR.out.mono ?_; rintro e w2 ⟨ao, ca, rfl, hown, hb2⟩) | (go_at_call 48; refine (HB.out _ _ _ (RdI_owns hown)).mono ?_; rintro e w3 ⟨bo, cb, rfl, hown3, hb3⟩) | (go_at_call 10; refine (HS.out _ _ _ (RdI_owns hown3) (HCap.out _ _ _ _ hown3)).mono ?_; rintro e w4 ⟨rfl, hb4⟩))
    go_ret2
    exact ⟨rfl, by (repeat (first | assumption | exact Below.refl _ _ | refine belowThen ?_ (Go.Joins.below_alloc1 _ _) | apply Below.drew | refine belowThen ?_ (by assumption) | refine belowThen ?_ (Go.Joins.below_draws _ _ _) | refine Below.setCell ?_ (by first | exact Nat.le_refl _ | (simp; done) | (simp; omega)) _))⟩
end Go.Proofs.YtfdmcnnjifggnabGreatDoor
