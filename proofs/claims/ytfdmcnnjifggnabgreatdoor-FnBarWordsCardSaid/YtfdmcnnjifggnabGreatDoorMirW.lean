/- Contracts of the functions that give the word that is seen in a mirror. -/
import Derived.Test.YtfdmcnnjifggnabGreatDoorBack
import Derived.Test.YtfdmcnnjifggnabGreatDoorSpell
import Derived.Lib.Hide
namespace Go.Proofs.YtfdmcnnjifggnabGreatDoor
open Go.RowKit

def mirB (s : ByteArray) : Bool := wordB s 6 && spellB (backL mirC (rowW s))
def mirS (s : ByteArray) : ByteArray := if wordB s 6 = true then spellS (backL mirC (rowW s)) else ⟨#[]⟩
theorem enters_mir : ∀ (args : Array Value) (W : World), (callFunc 59 args).run Tryz.prog W = .ok (.enter 59 args) W := fun _ _ => by simp [go_sem, Tryz.func59]
theorem rowB_of {L : List Int} (hl : L.length ≤ 6) (h : ∀ x ∈ L, inB 0 127 x = true) : rowB L = true := by
  unfold rowB
  rw [decide_eq_true hl, Bool.true_and, List.all_eq_true]
  exact h
set_option maxHeartbeats 800000 in
set_option maxRecDepth 100000 in
theorem MirroredWordS_any (s : ByteArray) (hs : s.size ≤ maxLen) (w : World) : Calls Tryz.prog 20 #[.string s] w fun e w' => e = .returned (.tuple #[.string (mirS s), .bool (mirB s)]) ∧ Below w.heap.size w w' := by
  have HW := Lib.hid (fun W => l10Word_any s 6 (by decide) hs W)
  have hall := wordB_all (s := s) (m := 6)
  unfold mirB mirS
  generalize wordB s 6 = q at HW hall ⊢
  rcases q with _ | _
  · rw [if_neg (by decide), Bool.false_and]
    clear hall
    have hA1 := @cellAlloc; have hA2 := @frozenAlloc; have hA3 := @setCellAlloc; go_enter Tryz.func20, Tryz.ntmps20
    go_wp2_with (first | (go_at_call 37; refine (HW.out _).mono ?_; rintro e w' ⟨rfl, rfl⟩))
    go_ret2
    exact ⟨rfl, Below.refl _ _⟩
  · rw [if_pos rfl, Bool.true_and]
    have h := hall rfl
    have HR := Lib.hid (fun W => l10Row_any s (by omega) h.1 W)
    have hl := rowW_length s
    have hm := rowW_mem s
    generalize rowW s = L at HR hl hm ⊢
    have HB := Lib.hid (fun ao ca W h => l2MirrorRow_any ao L.length ca L W h rfl (by omega) hm)
    have hbl := backL_length mirC L
    have HS := Lib.hid (fun ao ca W h => l10Spelt_any ao (backL mirC L).length ca (backL mirC L) W h rfl (by omega))
    generalize backL mirC L = M at HB HS hbl ⊢
    generalize spellS M = r at HS ⊢
    generalize spellB M = q at HS ⊢
    clear hall h hm hl hbl
    have hA1 := @cellAlloc; have hA2 := @frozenAlloc; have hA3 := @setCellAlloc; go_enter Tryz.func20, Tryz.ntmps20
    go_wp2_with (first | (go_at_call 37; refine (HW.out _).mono ?_; rintro e w' ⟨rfl, rfl⟩) | (go_at_call 38; refine (HR.out _).mono ?_; rintro e w2 ⟨ao, ca, rfl, hown, hb2⟩) | (go_at_call 60; refine (HB.out _ _ _ (RdI_owns hown)).mono ?_; rintro e w3 ⟨bo, cb, rfl, hown3, hb3⟩) | (go_at_call 43; refine (HS.out _ _ _ (RdI_owns hown3)).mono ?_; rintro e w4 ⟨rfl, hb4⟩))
    go_ret2
    exact ⟨rfl, by (repeat (first | assumption | exact Below.refl _ _ | refine belowThen ?_ (Go.Joins.below_alloc1 _ _) | apply Below.drew | refine belowThen ?_ (by assumption) | refine belowThen ?_ (Go.Joins.below_draws _ _ _) | refine Below.setCell ?_ (by first | exact Nat.le_refl _ | (simp; done) | (simp; omega)) _))⟩
set_option maxHeartbeats 800000 in
set_option maxRecDepth 100000 in
theorem MirroredWordI_any (s : ByteArray) (hs : s.size ≤ maxLen) (w : World) : Calls Tryz.prog 19 #[.string s] w fun e w' => e = .returned (.tuple #[.string (mirS s), .bool (mirB s)]) ∧ Below w.heap.size w w' := by
  have HW := Lib.hid (fun W => isShort_any s W hs)
  have hall := wordB_all (s := s) (m := 6)
  unfold mirB mirS
  generalize wordB s 6 = q at HW hall ⊢
  rcases q with _ | _
  · rw [if_neg (by decide), Bool.false_and]
    clear hall
    have hA1 := @cellAlloc; have hA2 := @frozenAlloc; have hA3 := @setCellAlloc; go_enter Tryz.func19, Tryz.ntmps19
    go_wp2_with (first | (go_at_call 35; refine (HW.out _).mono ?_; rintro e w1 ⟨rfl, hb1⟩))
    go_ret2
    exact ⟨rfl, hb1⟩
  · rw [if_pos rfl, Bool.true_and]
    have h := hall rfl
    have HR := Lib.hid (fun W => rowOfWord_any s (by omega) h.1 W)
    have hl := rowW_length s
    have hm := rowW_mem s
    generalize rowW s = L at HR hl hm ⊢
    have HB := Lib.hid (fun ao ca W h => backwards_any 59 mirC mirC_lt ao L.length ca L W h rfl (by omega) hm enters_mir (fun c W hc => mirrored_any c hc W))
    have hbl := backL_length mirC L
    have hrb := rowB_of (L := backL mirC L) (by omega) (backL_mem mirC mirC_lt L)
    have HS := Lib.hid (fun ao ca W h (hc : (backL mirC L).length ≤ ca) => by have h2 := WordOfRowI_any ao (backL mirC L).length ca (backL mirC L) W h rfl (by unfold maxLen; omega) hc; unfold worS worB at h2; rw [hrb, if_pos rfl, Bool.true_and] at h2; exact h2 : ∀ (ao : Option Addr) (ca : Nat) (W : World), RdI W ao (backL mirC L) → (backL mirC L).length ≤ ca → Calls Tryz.prog 10 #[.slice ao (backL mirC L).length ca] W fun e w' => e = .returned (.tuple #[.string (spellS (backL mirC L)), .bool (spellB (backL mirC L))]) ∧ Below W.heap.size W w')
    generalize backL mirC L = M at HB HS hbl ⊢
    generalize spellS M = r at HS ⊢
    generalize spellB M = q at HS ⊢
    have HCap := Lib.hid (fun (W : World) (B : Nat) (ao : Option Addr) (ca : Nat) (h : ownsInts W B (.slice ao M.length ca) M) => (by
      obtain ⟨ao', cap', he, h0 | ⟨g, _, _, _, hc, _⟩⟩ := ownsInts_shape h
      · rw [h0]; exact Nat.zero_le _
      · simp only [Value.slice.injEq] at he
        omega : M.length ≤ ca))
    clear hall h hm hrb hl hbl
    have hA1 := @cellAlloc; have hA2 := @frozenAlloc; have hA3 := @setCellAlloc; go_enter Tryz.func19, Tryz.ntmps19
    go_wp2_with (first | (go_at_call 35; refine (HW.out _).mono ?_; rintro e w1 ⟨rfl, hb1⟩) | (go_at_call 36; refine (HR.out _).mono ?_; rintro e w2 ⟨ao, ca, rfl, hown, hb2⟩) | (go_at_call 48; refine (HB.out _ _ _ (RdI_owns hown)).mono ?_; rintro e w3 ⟨bo, cb, rfl, hown3, hb3⟩) | (go_at_call 10; refine (HS.out _ _ _ (RdI_owns hown3) (HCap.out _ _ _ _ hown3)).mono ?_; rintro e w4 ⟨rfl, hb4⟩))
    go_ret2
    exact ⟨rfl, by (repeat (first | assumption | exact Below.refl _ _ | refine belowThen ?_ (Go.Joins.below_alloc1 _ _) | apply Below.drew | refine belowThen ?_ (by assumption) | refine belowThen ?_ (Go.Joins.below_draws _ _ _) | refine Below.setCell ?_ (by first | exact Nat.le_refl _ | (simp; done) | (simp; omega)) _))⟩
end Go.Proofs.YtfdmcnnjifggnabGreatDoor
