/- Contracts of the functions that give the cells of the letters: all letters, and one of them. -/
import Derived.Test.YtfdmcnnjifggnabGreatDoorParse
import Derived.Test.YtfdmcnnjifggnabGreatDoorFind
import Derived.Test.YtfdmcnnjifggnabGreatDoorOwnV
import Derived.Lib.Hide
namespace Go.Proofs.YtfdmcnnjifggnabGreatDoor
open Go.RowKit

/-- The letters of the bars of a letter. -/
def barsL (k : Nat) : ByteArray := [⟨#[97, 98, 99, 101, 102, 103]⟩, ⟨#[99, 100, 101, 102, 103]⟩, ⟨#[97, 100, 101, 102]⟩, ⟨#[98, 99, 100, 101, 103]⟩, ⟨#[97, 100, 101, 102, 103]⟩, ⟨#[97, 101, 102, 103]⟩, ⟨#[99, 101, 102, 103]⟩, ⟨#[98, 99, 100, 101]⟩, ⟨#[100, 101, 102]⟩, ⟨#[99, 101, 103]⟩, ⟨#[99, 100, 101, 103]⟩, ⟨#[97, 98, 101, 102, 103]⟩, ⟨#[101, 103]⟩, ⟨#[100, 101, 102, 103]⟩, ⟨#[99, 100, 101]⟩, ⟨#[98, 99, 100, 102, 103]⟩].getD k ⟨#[]⟩
/-- The cells of the letters. -/
def letN : List Nat := [119, 124, 57, 94, 121, 113, 116, 30, 56, 84, 92, 115, 80, 120, 28, 110]
def letL : List Int := letN.map fun (n : Nat) => (n : Int)
def letC (k : Nat) : Nat := letN.getD k 0
theorem letL_getD (k : Nat) : letL.getD k 0 = ((letC k : Nat) : Int) := by
  simp only [letL, letC, List.getD_eq_getElem?_getD, List.getElem?_map]
  cases letN[k]? <;> rfl
theorem letL_length : letL.length = 16 := rfl
theorem letC_lt (k : Nat) : letC k < 128 := by
  by_cases h : k < 16
  · have : ∀ x : Fin 16, letC x.val < 128 := by decide
    exact this ⟨k, h⟩
  · unfold letC
    rw [List.getD_eq_getElem?_getD, List.getElem?_eq_none (by show letN.length ≤ k; show 16 ≤ k; omega)]
    decide
theorem barsL_good (k : Nat) (hk : k < 16) : lettersP (hasL (barsL k)) 7 = barsL k ∧ maskP (hasL (barsL k)) 7 = letC k := by
  have : ∀ x : Fin 16, lettersP (hasL (barsL x.val)) 7 = barsL x.val ∧ maskP (hasL (barsL x.val)) 7 = letC x.val := by decide +kernel
  exact this ⟨k, hk⟩
theorem l10Of_any (d : Nat) (hd : d < 16) (w : World) : Calls Tryz.prog 61 #[.int .i64 d] w
    fun e w' => e = .returned (.int .i64 (letC d)) ∧ Below w.heap.size w w' := by
  have hA1 := @cellAlloc
  have h10 : (d : Int) < 16 := by omega
  have hi : ∀ h, ([Value.int .i64 119, .int .i64 124, .int .i64 57, .int .i64 94, .int .i64 121, .int .i64 113, .int .i64 116, .int .i64 30, .int .i64 56, .int .i64 84, .int .i64 92, .int .i64 115, .int .i64 80, .int .i64 120, .int .i64 28, .int .i64 110] : List Value)[d]'h = .int .i64 (letC d) := by
    match d, hd with
    | 0, _ => exact fun _ => rfl
    | 1, _ => exact fun _ => rfl
    | 2, _ => exact fun _ => rfl
    | 3, _ => exact fun _ => rfl
    | 4, _ => exact fun _ => rfl
    | 5, _ => exact fun _ => rfl
    | 6, _ => exact fun _ => rfl
    | 7, _ => exact fun _ => rfl
    | 8, _ => exact fun _ => rfl
    | 9, _ => exact fun _ => rfl
    | 10, _ => exact fun _ => rfl
    | 11, _ => exact fun _ => rfl
    | 12, _ => exact fun _ => rfl
    | 13, _ => exact fun _ => rfl
    | 14, _ => exact fun _ => rfl
    | 15, _ => exact fun _ => rfl
    | n + 16, h => omega
  go_enter Tryz.func61, Tryz.ntmps61
  go_wp2
  go_ret
  exact ⟨rfl, by (repeat (first | assumption | exact Below.refl _ _ | refine belowThen ?_ (Go.Joins.below_alloc1 _ _) | apply Below.drew | refine belowThen ?_ (by assumption) | refine belowThen ?_ (Go.Joins.below_draws _ _ _) | refine Below.setCell ?_ (by first | exact Nat.le_refl _ | (simp; done) | (simp; omega)) _))⟩
/-- The values of the slice literal of all letters' bars. -/
def barsV : Array Value := #[.string ⟨#[97, 98, 99, 101, 102, 103]⟩, .string ⟨#[99, 100, 101, 102, 103]⟩, .string ⟨#[97, 100, 101, 102]⟩, .string ⟨#[98, 99, 100, 101, 103]⟩, .string ⟨#[97, 100, 101, 102, 103]⟩, .string ⟨#[97, 101, 102, 103]⟩, .string ⟨#[99, 101, 102, 103]⟩, .string ⟨#[98, 99, 100, 101]⟩, .string ⟨#[100, 101, 102]⟩, .string ⟨#[99, 101, 103]⟩, .string ⟨#[99, 100, 101, 103]⟩, .string ⟨#[97, 98, 101, 102, 103]⟩, .string ⟨#[101, 103]⟩, .string ⟨#[100, 101, 102, 103]⟩, .string ⟨#[99, 100, 101]⟩, .string ⟨#[98, 99, 100, 102, 103]⟩]
theorem barsV_at (k : Nat) (hk : k < 16) : barsV[k]? = some (.string (barsL k)) := by
  match k, hk with
  | 0, _ => rfl
  | 1, _ => rfl
  | 2, _ => rfl
  | 3, _ => rfl
  | 4, _ => rfl
  | 5, _ => rfl
  | 6, _ => rfl
  | 7, _ => rfl
  | 8, _ => rfl
  | 9, _ => rfl
  | 10, _ => rfl
  | 11, _ => rfl
  | 12, _ => rfl
  | 13, _ => rfl
  | 14, _ => rfl
  | 15, _ => rfl
  | n + 16, h => omega
theorem take_succI (L : List Int) (k : Nat) (h : k < L.length) : L.take (k + 1) = L.take k ++ [L.getD k 0] := by
  rw [List.take_add_one, List.getElem?_eq_getElem h, List.getD_eq_getElem?_getD, List.getElem?_eq_getElem h]
  rfl
/-- A slice of the call's own is returned that holds the numbers. -/
def RetIntsL (L : List Int) (w : World) (e : Ending) (w' : World) : Prop := ∃ ao cap, e = .returned (.slice ao L.length cap) ∧ ownsInts w' w.heap.size (.slice ao L.length cap) L ∧ Below w.heap.size w w'
set_option maxHeartbeats 800000 in
theorem letterCells_any (w : World) : Calls Tryz.prog 65 #[] w (RetIntsL letL w) := by
  have hb0 : ∀ k, k < 16 → (w.alloc (.cells barsV 9)).cell? ⟨w.heap.size, k, none⟩ = some (.string (barsL k)) := fun k hk => by
    rw [World.cell?_alloc_at _ _ _ _ rfl]; exact barsV_at k hk
  have HB := Lib.hid hb0
  clear hb0
  have hA1 := @cellAlloc; have hA2 := @frozenAlloc; have hA3 := @setCellAlloc; go_enter Tryz.func65, Tryz.ntmps65
  go_wp2_with fail
  have hbw0 : Below (w.heap.size + 1) (w.alloc (.cells barsV 9)) (w.alloc (.cells barsV 9)) := Below.refl _ _
  go_loopw [1, 8] (fun v i wr => ∃ k : Nat, k ≤ 16 ∧ i = .int .i64 k ∧ ownsInts wr (w.heap.size + 1) v (letL.take k) ∧ Below (w.heap.size + 1) (w.alloc (.cells barsV 9)) wr) (fun _ i _ => 16 - (intOf i).toNat)
  case atStart => exact ⟨0, by omega, rfl, ownsInts_nil _ _, hbw0⟩
  case round =>
    obtain ⟨k, hk, rfl, hown, hbw⟩ := hrel
    have hsz := hbw.size
    rw [heapAlloc] at hsz
    by_cases hlt : k < 16
    · have hcell := (hbw.cell (p := ⟨w.heap.size, k, none⟩) (Nat.lt_succ_self _)).trans (HB.out k hlt)
      have hg := barsL_good k hlt
      have HP := Lib.hid (fun W => by have h := ParseBars_good (barsL k) hg.1 W; rw [hg.2] at h; exact h : ∀ W, Calls Tryz.prog 89 #[.string (barsL k)] W fun e w' => e = .returned (.tuple #[.int .i64 (letC k), .bool true]) ∧ W = w')
      have hsucc := take_succI letL k (by rw [letL_length]; omega)
      rw [letL_getD] at hsucc
      have hlen : (letL.take k).length = k := by rw [List.length_take, letL_length]; omega
      generalize barsL k = s at hcell HP
      generalize letC k = x at hsucc HP
      have HS := Lib.hid hsucc
      clear hsucc hg
      generalize letL.take k = L at HS hown hlen
      clear hbw0
      go_wp2_with (first | (go_at_call 89; refine (HP.out _).mono ?_; rintro e w' ⟨rfl, rfl⟩) | (at_builtin; refine wpAppendInt wr (by rfl) _ _ (by rfl) (w.heap.size + 1) _ _ (by rfl) hown (x : Int) (by rfl) (by omega) (by omega) ?_; intro co cc w4 hv4 hb4))
      go_roundw
      case rel => exact ⟨k + 1, by omega, by go_num, by rw [HS.out]; rw [hlen] at hv4; exact hv4, hbw.trans hb4⟩
      case measure => simp [intOf]; omega
    · have hk16 : k = 16 := by omega
      subst hk16
      rw [List.take_of_length_le (by rw [letL_length]; omega)] at hown
      obtain ⟨co, cc, rfl, -⟩ := ownsInts_shape hown
      clear hbw0
      go_wp2
      go_ret
      exact ⟨co, cc, rfl, ownsInts_le hown (by omega), (Go.Joins.below_alloc1 _ _).trans (hbw.mono (by omega))⟩
end Go.Proofs.YtfdmcnnjifggnabGreatDoor
