/- Joined texts: OwnV, Letters, DrawW, Trim. -/
import Derived.Test.YtfdmcnnjifggnaaDoorMg01
import Derived.Test.YtfdmcnnjifggnaaDoorMg04
import Derived.Test.YtfdmcnnjifggnaaDoorMg02
import Derived.Lib.Hide
import Derived.Test.YtfdmcnnjifggnaaDoorMg03
import Derived.Lib.Bytealg
import Derived.Deep.OwnRows
import Derived.Deep.WholeRow
import Derived.Laws.ResultCell
import Derived.Deep.QuietTactic
import Derived.BigQuiet
namespace Go.Proofs.YtfdmcnnjifggnaaDoor
open Go.RowKit

/-- The slice value v owns a row of values of one cell each. -/
def ownsV (w : World) (B : Nat) (e : TypeId) (v : Value) (vs : List Value) : Prop := ownsG w B e 1 v vs.length vs
theorem ownsV_nil (w : World) (B : Nat) (e : TypeId) : ownsV w B e (.slice none 0 0) [] := .inl (World.ownsRow_nil w B _ _)
theorem ownsV_below {w w' : World} {B C : Nat} {e : TypeId} {v : Value} {vs : List Value} (h : ownsV w B e v vs) (hb : Below w.heap.size w w') (hC : C ≤ B) : ownsV w' C e v vs := ownsG_below h hb hC
/-- A slice at ao reads as the values. -/
def RdV (w : World) (ao : Option Addr) (vs : List Value) : Prop :=
  vs = [] ∨ ∃ b off, ao = some ⟨b, off, none⟩ ∧ b < w.heap.size ∧ ∀ j, j < vs.length → w.cell? ⟨b, off + j, none⟩ = some (vs.getD j undef)
theorem RdV_below {w w' : World} {ao : Option Addr} {vs : List Value} (h : RdV w ao vs) (hb : Below w.heap.size w w') : RdV w' ao vs := by
  rcases h with h | ⟨b, off, rfl, hlt, hc⟩
  · exact .inl h
  · have := hb.size
    exact .inr ⟨b, off, rfl, by omega, fun j hj => (hb.cell (p := ⟨b, off + j, none⟩) (by show b < _; omega)).trans (hc j hj)⟩
theorem ownsV_shape {w : World} {B : Nat} {e : TypeId} {v : Value} {vs : List Value} (h : ownsV w B e v vs) : ∃ ao cap, v = .slice ao vs.length cap ∧ RdV w ao vs := by
  obtain ⟨ao, cap, rfl, ⟨hn, hx⟩ | ⟨g, rfl, hb, hg, hc, hcell, _⟩⟩ := ownsG_shape h
  · exact ⟨ao, cap, rfl, .inl hx⟩
  · refine ⟨_, cap, rfl, .inr ⟨g, 0, rfl, hg, fun j hj => ?_⟩⟩
    rw [Nat.zero_add, hcell j (by omega)]
    simp [hj]
/-- append of one value to a slice of the call's own. -/
theorem wpAppendV {ops : Array Oper} {rest : List Oper} {o : Oper} {a : Act} {Q : Exit → Act → World → Prop} (w : World) (hgd : o.guard = none) (s x : Operand) (ts e : TypeId) (z : Value) (bytes : Nat)
    (ho : o.op = .call { callee := .builtin .append, args := #[s, x], argTypes := #[ts, ts] }) (hts : Tryd.prog.underlying ts = some (.slice e))
    (hin : (Tryd.prog.info? e).map (fun i => (i.zero, i.size, i.bytes)) = some (some z, 1, bytes)) (hzs : z.cells.size = 1) (hby : bytes ≤ 100)
    (B : Nat) (v : Value) (vs : List Value) (hs : a.eval s = v) (hown : ownsV w B e v vs) (u : Value) (hu : u.oneCell' = true) (t' : TypeId) (hx : a.eval x = .slice (some ⟨w.heap.size, 0, none⟩) 1 1)
    (hn : vs.length ≤ 1000000000) (hB : B ≤ w.heap.size)
    (h : ∀ ao cap w', ownsV w' B e (.slice ao (vs.length + 1) cap) (vs ++ [u]) → Below B w w' → wpList Tryd.prog ops Q rest (a.put o.dst (.slice ao (vs.length + 1) cap)) w') :
    wpList Tryd.prog ops Q (o :: rest) a (w.alloc (.cells #[u] t')) :=
  wpAppendG w hgd s x ts e z 1 bytes ho hts hin hzs (by decide) hby B v vs.length _ hs hown [u] _ hx rfl (by simpa using hu) hn hB
    fun ao cap w' h2 hb _ => h ao cap w' (by unfold ownsV; simpa using h2) hb
end Go.Proofs.YtfdmcnnjifggnaaDoor

namespace Go.Proofs.YtfdmcnnjifggnaaDoor
open Go.RowKit

/-- The letters of the bars of a letter. -/
def barsL (k : Nat) : ByteArray := [⟨#[97, 98, 99, 101, 102, 103]⟩, ⟨#[99, 100, 101, 102, 103]⟩, ⟨#[97, 100, 101, 102]⟩, ⟨#[98, 99, 100, 101, 103]⟩, ⟨#[97, 100, 101, 102, 103]⟩, ⟨#[97, 101, 102, 103]⟩, ⟨#[99, 101, 102, 103]⟩, ⟨#[98, 99, 100, 101]⟩, ⟨#[100, 101, 102]⟩, ⟨#[99, 101, 103]⟩, ⟨#[99, 100, 101, 103]⟩, ⟨#[97, 98, 101, 102, 103]⟩, ⟨#[101, 103]⟩, ⟨#[100, 101, 102, 103]⟩, ⟨#[99, 100, 101]⟩, ⟨#[98, 99, 100, 102, 103]⟩].getD k ⟨#[]⟩
/-- The cells of the letters. -/
def letN : List Nat := [119, 124, 57, 94, 121, 113, 116, 30, 56, 84, 92, 115, 80, 120, 28, 110]
def letL : List Int := letN.map fun (n : Nat) => (n : Int)
def letC (k : Nat) : Nat := letN.getD k 0
theorem letL_getD (k : Nat) : letL.getD k 0 = ((letC k : Nat) : Int) := by
  simp only [letL, letC, List.getD_eq_getElem?_getD, List.getElem?_map]
  cases letN[k]? <;> rfl
theorem letL_length : letL.length = 16 := rfl
theorem letC_lt (k : Nat) : letC k < 128 := by
  by_cases h : k < 16
  · have : ∀ x : Fin 16, letC x.val < 128 := by decide
    exact this ⟨k, h⟩
  · unfold letC
    rw [List.getD_eq_getElem?_getD, List.getElem?_eq_none (by show letN.length ≤ k; show 16 ≤ k; omega)]
    decide
theorem barsL_good (k : Nat) (hk : k < 16) : lettersP (hasL (barsL k)) 7 = barsL k ∧ maskP (hasL (barsL k)) 7 = letC k := by
  have : ∀ x : Fin 16, lettersP (hasL (barsL x.val)) 7 = barsL x.val ∧ maskP (hasL (barsL x.val)) 7 = letC x.val := by decide +kernel
  exact this ⟨k, hk⟩
theorem l10Of_any (d : Nat) (hd : d < 16) (w : World) : Calls Tryd.prog 50 #[.int .i64 d] w
    fun e w' => e = .returned (.int .i64 (letC d)) ∧ Below w.heap.size w w' := by
  have hA1 := @cellAlloc
  have h10 : (d : Int) < 16 := by omega
  have hi : ∀ h, ([Value.int .i64 119, .int .i64 124, .int .i64 57, .int .i64 94, .int .i64 121, .int .i64 113, .int .i64 116, .int .i64 30, .int .i64 56, .int .i64 84, .int .i64 92, .int .i64 115, .int .i64 80, .int .i64 120, .int .i64 28, .int .i64 110] : List Value)[d]'h = .int .i64 (letC d) := by
    match d, hd with
    | 0, _ => exact fun _ => rfl
    | 1, _ => exact fun _ => rfl
    | 2, _ => exact fun _ => rfl
    | 3, _ => exact fun _ => rfl
    | 4, _ => exact fun _ => rfl
    | 5, _ => exact fun _ => rfl
    | 6, _ => exact fun _ => rfl
    | 7, _ => exact fun _ => rfl
    | 8, _ => exact fun _ => rfl
    | 9, _ => exact fun _ => rfl
    | 10, _ => exact fun _ => rfl
    | 11, _ => exact fun _ => rfl
    | 12, _ => exact fun _ => rfl
    | 13, _ => exact fun _ => rfl
    | 14, _ => exact fun _ => rfl
    | 15, _ => exact fun _ => rfl
    | n + 16, h => omega
  go_enter Tryd.func50, Tryd.ntmps50
  go_wp2
  go_ret
  exact ⟨rfl, by (repeat (first | assumption | exact Below.refl _ _ | refine belowThen ?_ (Go.Joins.below_alloc1 _ _) | apply Below.drew | refine belowThen ?_ (by assumption) | refine belowThen ?_ (Go.Joins.below_draws _ _ _) | refine Below.setCell ?_ (by first | exact Nat.le_refl _ | (simp; done) | (simp; omega)) _))⟩
/-- The values of the slice literal of all letters' bars. -/
def barsV : Array Value := #[.string ⟨#[97, 98, 99, 101, 102, 103]⟩, .string ⟨#[99, 100, 101, 102, 103]⟩, .string ⟨#[97, 100, 101, 102]⟩, .string ⟨#[98, 99, 100, 101, 103]⟩, .string ⟨#[97, 100, 101, 102, 103]⟩, .string ⟨#[97, 101, 102, 103]⟩, .string ⟨#[99, 101, 102, 103]⟩, .string ⟨#[98, 99, 100, 101]⟩, .string ⟨#[100, 101, 102]⟩, .string ⟨#[99, 101, 103]⟩, .string ⟨#[99, 100, 101, 103]⟩, .string ⟨#[97, 98, 101, 102, 103]⟩, .string ⟨#[101, 103]⟩, .string ⟨#[100, 101, 102, 103]⟩, .string ⟨#[99, 100, 101]⟩, .string ⟨#[98, 99, 100, 102, 103]⟩]
theorem barsV_at (k : Nat) (hk : k < 16) : barsV[k]? = some (.string (barsL k)) := by
  match k, hk with
  | 0, _ => rfl
  | 1, _ => rfl
  | 2, _ => rfl
  | 3, _ => rfl
  | 4, _ => rfl
  | 5, _ => rfl
  | 6, _ => rfl
  | 7, _ => rfl
  | 8, _ => rfl
  | 9, _ => rfl
  | 10, _ => rfl
  | 11, _ => rfl
  | 12, _ => rfl
  | 13, _ => rfl
  | 14, _ => rfl
  | 15, _ => rfl
  | n + 16, h => omega
theorem take_succI (L : List Int) (k : Nat) (h : k < L.length) : L.take (k + 1) = L.take k ++ [L.getD k 0] := by
  rw [List.take_add_one, List.getElem?_eq_getElem h, List.getD_eq_getElem?_getD, List.getElem?_eq_getElem h]
  rfl
/-- A slice of the call's own is returned that holds the numbers. -/
def RetIntsL (L : List Int) (w : World) (e : Ending) (w' : World) : Prop := ∃ ao cap, e = .returned (.slice ao L.length cap) ∧ ownsInts w' w.heap.size (.slice ao L.length cap) L ∧ Below w.heap.size w w'
set_option maxHeartbeats 800000 in
theorem letterCells_any (w : World) : Calls Tryd.prog 45 #[] w (RetIntsL letL w) := by
  have hb0 : ∀ k, k < 16 → (w.alloc (.cells barsV 9)).cell? ⟨w.heap.size, k, none⟩ = some (.string (barsL k)) := fun k hk => by
    rw [World.cell?_alloc_at _ _ _ _ rfl]; exact barsV_at k hk
  have HB := Lib.hid hb0
  clear hb0
  have hA1 := @cellAlloc; have hA2 := @frozenAlloc; have hA3 := @setCellAlloc; go_enter Tryd.func45, Tryd.ntmps45
  go_wp2_with fail
  have hbw0 : Below (w.heap.size + 1) (w.alloc (.cells barsV 9)) (w.alloc (.cells barsV 9)) := Below.refl _ _
  go_loopw [1, 8] (fun v i wr => ∃ k : Nat, k ≤ 16 ∧ i = .int .i64 k ∧ ownsInts wr (w.heap.size + 1) v (letL.take k) ∧ Below (w.heap.size + 1) (w.alloc (.cells barsV 9)) wr) (fun _ i _ => 16 - (intOf i).toNat)
  case atStart => exact ⟨0, by omega, rfl, ownsInts_nil _ _, hbw0⟩
  case round =>
    obtain ⟨k, hk, rfl, hown, hbw⟩ := hrel
    have hsz := hbw.size
    rw [heapAlloc] at hsz
    by_cases hlt : k < 16
    · have hcell := (hbw.cell (p := ⟨w.heap.size, k, none⟩) (Nat.lt_succ_self _)).trans (HB.out k hlt)
      have hg := barsL_good k hlt
      have HP := Lib.hid (fun W => by have h := ParseBars_good (barsL k) hg.1 W; rw [hg.2] at h; exact h : ∀ W, Calls Tryd.prog 63 #[.string (barsL k)] W fun e w' => e = .returned (.tuple #[.int .i64 (letC k), .bool true]) ∧ W = w')
      have hsucc := take_succI letL k (by rw [letL_length]; omega)
      rw [letL_getD] at hsucc
      have hlen : (letL.take k).length = k := by rw [List.length_take, letL_length]; omega
      generalize barsL k = s at hcell HP
      generalize letC k = x at hsucc HP
      have HS := Lib.hid hsucc
      clear hsucc hg
      generalize letL.take k = L at HS hown hlen
      clear hbw0
      go_wp2_with (first | (go_at_call 63; refine (HP.out _).mono ?_; rintro e w' ⟨rfl, rfl⟩) | (at_builtin; refine wpAppendInt wr (by rfl) _ _ (by rfl) (w.heap.size + 1) _ _ (by rfl) hown (x : Int) (by rfl) (by omega) (by omega) ?_; intro co cc w4 hv4 hb4))
      go_roundw
      case rel => exact ⟨k + 1, by omega, by go_num, by rw [HS.out]; rw [hlen] at hv4; exact hv4, hbw.trans hb4⟩
      case measure => simp [intOf]; omega
    · have hk16 : k = 16 := by omega
      subst hk16
      rw [List.take_of_length_le (by rw [letL_length]; omega)] at hown
      obtain ⟨co, cc, rfl, -⟩ := ownsInts_shape hown
      clear hbw0
      go_wp2
      go_ret
      exact ⟨co, cc, rfl, ownsInts_le hown (by omega), (Go.Joins.below_alloc1 _ _).trans (hbw.mono (by omega))⟩
end Go.Proofs.YtfdmcnnjifggnaaDoor

namespace Go.Proofs.YtfdmcnnjifggnaaDoor
open Go.RowKit

/-- One of some values that are written out. -/
theorem of_any (c k cap : Nat) (vs : List Value) (b m : Nat) (w : World) (h : Cur w b m) (hm : m ≤ 999990) (hL : vs.length = k) (hk : 0 < k) (hk2 : k ≤ 1000) (hc : c < w.heap.size) (hcb : c ≠ b) (hr : ∀ j, j < k → w.cell? ⟨c, j, none⟩ = some (vs.getD j undef)) :
    Calls Tryd.prog 59 #[.pointer (some ⟨b, 0, none⟩), .slice (some ⟨c, 0, none⟩) k cap] w
    fun e w' => (∃ v, v ∈ vs ∧ e = .returned v) ∧ Cur w' b (m + 2) ∧ OnlyC b w w' := by
  have HN := Lib.hid (pick_any (k : Int) b m w h hm)
  have HR := Lib.hid hr
  have HL := Lib.hid hL
  clear hr hL
  go_enter Tryd.func59, Tryd.ntmps59
  go_wp2_with (
    go_at_call 33
    refine HN.out.mono ?_
    rintro e w1 ⟨⟨x, hx, hxk, rfl⟩, hc1, ho1⟩
    have hxk2 := hxk (by omega)
    have hxl : x < vs.length := by rw [HL.out]; omega
    have hcell : w1.cell? ⟨c, x, none⟩ = some (vs.getD x undef) := (ho1.cell hc hcb).trans (HR.out x (by omega))
    clear hxk)
  go_ret
  exact ⟨⟨_, List.getElem_mem hxl, rfl⟩, hc1, ho1⟩
theorem ofA (A : Array Value) (k : Nat) (T : TypeId) {w0 W : World} {b m : Nat} (h : CurO w0 W b m) (hm : m ≤ 999990) (hk : A.size = k) (hk0 : 0 < k) (hk1 : k ≤ 1000) :
    Calls Tryd.prog 59 #[.pointer (some ⟨b, 0, none⟩), .slice (some ⟨W.heap.size, 0, none⟩) k k] (W.alloc (.cells A T))
    fun e w' => (∃ v, v ∈ A.toList ∧ e = .returned v) ∧ CurO w0 w' b (m + 2) :=
  (of_any W.heap.size k k A.toList b m _ (h.alloc _).1 hm (by simpa using hk) hk0 hk1 (by simp) (by have := h.1.lt; omega) (fun j hj => by
    rw [World.cell?_alloc_at _ _ _ _ rfl]
    simp [show j < A.size by omega])).mono fun e w' k => ⟨k.1, k.2.1, (h.alloc _).2.trans k.2.2⟩
/-- A short text is returned. -/
def RetTxt (k : Nat) (e : Ending) : Prop := ∃ s : ByteArray, s.size ≤ k ∧ e = .returned (.string s)
set_option maxHeartbeats 3200000 in
theorem wordOfO {w0 W : World} {b m : Nat} (most : Int) (h : CurO w0 W b m) (hm : m ≤ 998000) : Calls Tryd.prog 38 #[.pointer (some ⟨b, 0, none⟩), .int .i64 most] W fun e w' => RetTxt 30 e ∧ CurO w0 w' b (m + 100) := by
  have hs := CurO.start h.1
  have hA1 := @cellAlloc; have hA2 := @frozenAlloc; have hA3 := @setCellAlloc; go_enter Tryd.func38, Tryd.ntmps38
  go_wp2_with (first
    | (go_at_call 27; refine (amongA _ _ _ hs (by omega) (by rfl) (by decide) (by decide) (by rfl)).mono ?_; rintro e w1 ⟨⟨z, hz, rfl⟩, hc1⟩; have hz2 : 0 ≤ z ∧ z ≤ 12 := (by simp [intOf] at hz; omega); clear hz))
  obtain ⟨k0, rfl⟩ := Int.eq_ofNat_of_zero_le hz2.1
  have hex : ∀ x, x < 16 → ((⟨#[97, 98, 99, 100, 101, 102, 104, 106, 108, 110, 111, 112, 114, 116, 117, 121]⟩ : ByteArray).extract x (x + 1)).size = 1 := fun x hx => by rw [ByteArray.size_extract]; show min (x + 1) 16 - x = 1; omega
  have HEx := Lib.hid hex
  clear hex
  go_loopw [5, 6] (fun v i wr => ∃ (k : Nat) (s : ByteArray), k ≤ 12 ∧ s.size + k ≤ 12 ∧ i = .int .i64 k ∧ v = .string s ∧ CurO W wr b (m + 30 - 2 * k)) (fun _ i _ => (intOf i).toNat)
  case atStart => exact ⟨k0, ⟨#[]⟩, by omega, by show 0 + k0 ≤ 12; omega, rfl, rfl, hc1.mono (by omega)⟩
  case round =>
    obtain ⟨k, s, hk, hsk, rfl, rfl, hcu⟩ := hrel
    clear hc1
    by_cases h0 : (0 : Int) < (k : Int) ∧ (s.size : Int) < most
    · obtain ⟨h1, h2⟩ := h0
      go_wp2_with (first
        | (go_at_call 33; refine (pickO _ hcu (by omega)).mono ?_; rintro e w2 ⟨⟨x, hx, hxn, rfl⟩, hc2⟩; have hx16 := hxn (by decide); have hxe := HEx.out x (by omega); have hx6 : ((x : Int) + 1).toNat = x + 1 := (by omega))
        | fail)
      go_roundw
      case rel => exact ⟨k - 1, _, by omega, by rw [ByteArray.size_append, hxe]; omega, by go_num, rfl, hc2.mono (by omega)⟩
      case measure => simp [intOf]; omega
    · by_cases hk0 : k = 0
      · subst hk0
        clear h0
        go_wp2_with (first
          | (go_at_call 33; first
            | (refine (pickO _ hc3 (by omega)).mono ?_; rintro e w5 ⟨⟨y, hy, hyn, rfl⟩, hc5⟩; have hy8 := hyn (by decide); have hy6 : ((6 : Int) + (y : Int)).toNat = 6 + y := (by omega))
            | (refine (pickO _ hcu (by omega)).mono ?_; rintro e w3 ⟨⟨x, hx, hxn, rfl⟩, hc3⟩))
          | (go_at_call 59; refine (ofA _ _ _ hc3 (by omega) (by rfl) (by decide) (by decide)).mono ?_; rintro e w4 ⟨⟨v, hv, rfl⟩, hc4⟩; have hv2 : ∃ t : ByteArray, t.size ≤ 7 ∧ v = .string t := (by simp at hv; rcases hv with rfl | rfl | rfl | rfl <;> exact ⟨_, by decide, rfl⟩); obtain ⟨t, ht, rfl⟩ := hv2))
        all_goals go_ret
        all_goals first
          | exact ⟨⟨_, by rw [ByteArray.size_append]; omega, rfl⟩, (h.trans hc4).mono (by omega)⟩
          | exact ⟨⟨_, by rw [ByteArray.size_extract]; show min _ 13 - _ ≤ 30; omega, rfl⟩, (h.trans hc5).mono (by omega)⟩
          | exact ⟨⟨s, by omega, rfl⟩, (h.trans hc3).mono (by omega)⟩
      · have h1 : (0 : Int) < (k : Int) := by omega
        have h2 : ¬ (s.size : Int) < most := fun h9 => h0 ⟨h1, h9⟩
        clear h0
        go_wp2_with (first
          | (go_at_call 33; first
            | (refine (pickO _ hc3 (by omega)).mono ?_; rintro e w5 ⟨⟨y, hy, hyn, rfl⟩, hc5⟩; have hy8 := hyn (by decide); have hy6 : ((6 : Int) + (y : Int)).toNat = 6 + y := (by omega))
            | (refine (pickO _ hcu (by omega)).mono ?_; rintro e w3 ⟨⟨x, hx, hxn, rfl⟩, hc3⟩))
          | (go_at_call 59; refine (ofA _ _ _ hc3 (by omega) (by rfl) (by decide) (by decide)).mono ?_; rintro e w4 ⟨⟨v, hv, rfl⟩, hc4⟩; have hv2 : ∃ t : ByteArray, t.size ≤ 7 ∧ v = .string t := (by simp at hv; rcases hv with rfl | rfl | rfl | rfl <;> exact ⟨_, by decide, rfl⟩); obtain ⟨t, ht, rfl⟩ := hv2))
        all_goals go_ret
        all_goals first
          | exact ⟨⟨_, by rw [ByteArray.size_append]; omega, rfl⟩, (h.trans hc4).mono (by omega)⟩
          | exact ⟨⟨_, by rw [ByteArray.size_extract]; show min _ 13 - _ ≤ 30; omega, rfl⟩, (h.trans hc5).mono (by omega)⟩
          | exact ⟨⟨s, by omega, rfl⟩, (h.trans hc3).mono (by omega)⟩
set_option maxHeartbeats 3200000 in
theorem rowDO {w0 W : World} {b m : Nat} (h : CurO w0 W b m) (hm : m ≤ 998000) : Calls Tryd.prog 54 #[.pointer (some ⟨b, 0, none⟩)] W fun e w' => RetOwn 7 W e w' ∧ CurO w0 w' b (m + 300) := by
  have hbB : b < W.heap.size := h.1.lt
  have hs := CurO.start h.1
  have hA1 := @cellAlloc; have hA2 := @frozenAlloc; have hA3 := @setCellAlloc; go_enter Tryd.func54, Tryd.ntmps54
  go_wp2_with (first
    | (go_at_call 27; refine (amongB _ _ _ _ (CurO.alloc hs _) (by simp) (by omega) (by rfl) (by decide) (by decide) (by rfl)).mono ?_; rintro e w1 ⟨⟨z, hz, rfl⟩, hc1⟩; have hz2 : 0 ≤ z ∧ z ≤ 6 := (by simp [intOf] at hz; omega); clear hz))
  obtain ⟨k0, rfl⟩ := Int.eq_ofNat_of_zero_le hz2.1
  go_loopw [3, 4] (fun v i wr => ∃ (k : Nat) (L : List Int), k ≤ 6 ∧ L.length + k ≤ 6 ∧ i = .int .i64 k ∧ ownsInts wr W.heap.size v L ∧ CurO W wr b (m + 200 - 20 * k)) (fun _ i _ => (intOf i).toNat)
  case atStart => exact ⟨k0, [], by omega, by show 0 + k0 ≤ 6; omega, rfl, ownsInts_zero _ _ _, hc1.mono (by omega)⟩
  case round =>
    obtain ⟨k, L, hk, hLk, rfl, hown, hcu⟩ := hrel
    have hwr := hcu.2.size
    clear hc1
    obtain ⟨ao, cap, rfl, -⟩ := ownsInts_shape hown
    by_cases h0 : k = 0
    · subst h0
      go_wp2_with (go_at_call 25; refine (oneO _ (CurO.self hcu) (by omega)).mono ?_; rintro e w5 ⟨⟨q5, rfl⟩, hc5⟩; have hcu5 := hcu.trans hc5; have hs5 := hc5.2.size; have hown5 := ownsG_onlyC hown hbB hc5.2)
      all_goals go_ret
      all_goals first
        | exact ⟨⟨_, _, [6, 6, 6, 6, 6, 6, 6], rfl, by decide, ownsInts_new w5 [6, 6, 6, 6, 6, 6, 6] W.heap.size (by omega) (by decide)⟩, ((h.trans hcu5).alloc _).mono (by omega)⟩
        | exact ⟨⟨_, _, L, rfl, by omega, hown5⟩, (h.trans hcu5).mono (by omega)⟩
    · have hpos : (0 : Int) < (k : Int) := by omega
      go_wp2_with (first
        | (go_at_call 67; refine (cellO (CurO.self hcu) (by omega)).mono ?_; rintro e w2 ⟨⟨x, rfl⟩, hc2⟩; have hown2 := ownsG_onlyC hown hbB hc2.2; have hcu2 := hcu.trans hc2; have hs2 := hc2.2.size)
        | (at_builtin; refine wpAppendInt w2 (by rfl) _ _ (by rfl) W.heap.size _ _ (by rfl) hown2 x (by rfl) (by omega) (by omega) ?_; intro co cc w4 hv4 hb4; have hcu4 := hcu2.appended hb4 (Nat.le_refl _) hbB (by omega)))
      go_roundw
      case rel => exact ⟨k - 1, L ++ [x], by omega, by simp; omega, by go_num, hv4, hcu4.mono (by omega)⟩
      case measure => simp [intOf]; omega
end Go.Proofs.YtfdmcnnjifggnaaDoor

namespace Go.Proofs.YtfdmcnnjifggnaaDoor
open Go.RowKit

def abcB : ByteArray := ⟨#[97, 98, 99, 100, 101, 102, 104, 106, 108, 110, 111, 112, 114, 116, 117, 121]⟩
def abcN : List Nat := [97, 98, 99, 100, 101, 102, 104, 106, 108, 110, 111, 112, 114, 116, 117, 121]
/-- The byte is a letter. -/
def isL (b : Nat) : Bool := abcN.contains b
def isP (i b : Nat) : Bool := (abcN.take i).contains b
def setArr : Array Value := ((List.range 256).map fun j => Value.bool (isL j)).toArray
def falses : Array Value := (List.replicate 256 (Value.bool false)).toArray
theorem setArr_get (i : Nat) (h : i < 256) : setArr[i]? = some (.bool (isL i)) := by
  unfold setArr
  rw [List.getElem?_toArray, List.getElem?_map, List.getElem?_range h]; rfl
theorem setArr_size : setArr.size = 256 := by simp [setArr]
theorem falses_get (i : Nat) (h : i < 256) : falses[i]? = some (.bool false) := by
  unfold falses
  rw [List.getElem?_toArray, List.getElem?_replicate, if_pos h]
theorem isP_succ (i b : Nat) (hi : i < 16) : isP (i + 1) b = (isP i b || b == abcN.getD i 0) := by
  unfold isP
  rw [List.take_add_one, List.getElem?_eq_getElem (by show i < 16; exact hi), List.getD_eq_getElem?_getD, List.getElem?_eq_getElem (by show i < 16; exact hi)]
  rw [List.contains_append]
  congr 1
  show List.contains [_] b = _
  rw [List.contains_cons, List.contains_nil, Bool.or_false]
  rfl
theorem heapRowSame (w : World) (g : Nat) (c c' : Array Value) (t : TypeId) (h : w.heap[g]? = some (.cells c t (0, 0))) : (w.setRow g c').heap[g]? = some (.cells c' t (0, 0)) := by
  simp [World.setRow, Array.getElem?_modify, h]
theorem results_cell_tmp_row {fn : Func} {p u : Tmp} {ty : TypeId} (h : fn.results = #[.cell p ty, .tmp u]) (tmps : Array Value) (w : World) (g : Nat) (t : TypeId) (cs : Array Value) (fr : Nat × Nat) (n : Nat) (e : TypeId)
    (hp : tmps.getD p undef = .pointer (some ⟨g, 0, none⟩)) (hg : w.heap[g]? = some (.cells cs t fr)) (hu : Tryd.prog.underlying ty = some (.array n e))
    (hi : (Tryd.prog.info? ty).map (·.size) = some cs.size) (v : Value) (hv : tmps.getD u undef = v) : (results fn tmps).run Tryd.prog w = .ok (.tuple #[.agg cs, v]) w := by
  rw [results_cell_tmp h, hp, hv]
  simp [asAddr, run_loadVar_row w g t ty cs fr _ hg hu rfl hi, Result.andThen]
theorem abc_at (k : Nat) (hk : k < 16) : (∀ h : k < abcB.size, (abcB[k]'h).toNat = abcN.getD k 0) ∧ abcN.getD k 0 < 128 := by
  match k, hk with
  | 0, _ => exact ⟨fun _ => rfl, by decide⟩
  | 1, _ => exact ⟨fun _ => rfl, by decide⟩
  | 2, _ => exact ⟨fun _ => rfl, by decide⟩
  | 3, _ => exact ⟨fun _ => rfl, by decide⟩
  | 4, _ => exact ⟨fun _ => rfl, by decide⟩
  | 5, _ => exact ⟨fun _ => rfl, by decide⟩
  | 6, _ => exact ⟨fun _ => rfl, by decide⟩
  | 7, _ => exact ⟨fun _ => rfl, by decide⟩
  | 8, _ => exact ⟨fun _ => rfl, by decide⟩
  | 9, _ => exact ⟨fun _ => rfl, by decide⟩
  | 10, _ => exact ⟨fun _ => rfl, by decide⟩
  | 11, _ => exact ⟨fun _ => rfl, by decide⟩
  | 12, _ => exact ⟨fun _ => rfl, by decide⟩
  | 13, _ => exact ⟨fun _ => rfl, by decide⟩
  | 14, _ => exact ⟨fun _ => rfl, by decide⟩
  | 15, _ => exact ⟨fun _ => rfl, by decide⟩
  | n + 16, h => omega
set_option maxHeartbeats 1000000 in
set_option maxRecDepth 100000 in
theorem makeASCIISet_any (w : World) : Calls Tryd.prog 77 #[.string abcB] w fun e w' => e = .returned (.tuple #[.agg setArr, .bool true]) ∧ Below w.heap.size w w' := by
  have hz := (zero_of_info (P := Tryd.prog) (t := 82) (v := .agg falses) (n := 256) (by kernel_rfl)).1
  have hsz : abcB.size = 16 := rfl
  have hat := abc_at
  have HAt := Lib.hid hat
  clear hat
  generalize habc : abcB = S at hsz HAt ⊢
  clear habc
  have hA := setArr_size
  have hone : setArr.all (·.oneCell') = true := by simp [setArr, Value.oneCell']
  have HGet := Lib.hid (fun i h => setArr_get i h)
  generalize setArr = A at hA hone HGet ⊢
  have hA1 := @cellAlloc; have hA2 := @frozenAlloc; have hA3 := @setCellAlloc; go_enter Tryd.func77, Tryd.ntmps77
  go_wp2
  have hrow : (w.alloc (.cells falses 82)).rowIs w.heap.size 82 256 (fun j => .bool (isP 0 j)) := ⟨falses, heap_alloc_new _ _, by simp [falses], fun i hi => by rw [falses_get i hi]; rfl⟩
  have hb0 : Below w.heap.size w (w.alloc (.cells falses 82)) := Go.Joins.below_alloc1 _ _
  generalize w.alloc (.cells falses 82) = W at hrow hb0 ⊢
  go_loopw [4] (fun i wr => ∃ k : Nat, k ≤ 16 ∧ i = .int .i64 k ∧ wr.rowIs w.heap.size 82 256 (fun j => .bool (isP k j)) ∧ Below w.heap.size w wr) (fun i _ => 16 - (intOf i).toNat)
  case atStart => exact ⟨0, by omega, rfl, hrow, hb0⟩
  case round =>
    obtain ⟨k, hk, rfl, hri, hbw⟩ := hrel
    clear hrow hb0
    by_cases hlt : k < 16
    · obtain ⟨hch, hlow⟩ := HAt.out k hlt
      have hset : (wr.setCell ⟨w.heap.size, abcN.getD k 0, none⟩ (.bool true)).rowIs w.heap.size 82 256 (fun j => .bool (isP (k + 1) j)) := by
        refine (hri.set (abcN.getD k 0) _).congr fun j hj => ?_
        rw [isP_succ k j hlt]
        split
        · rename_i h; subst h; simp
        · rename_i h
          have : (j == abcN.getD k 0) = false := by simpa using h
          rw [this, Bool.or_false]
      have hcell := hri.cell (i := abcN.getD k 0) (by omega)
      have hfr := hri.frozen (abcN.getD k 0)
      generalize abcN.getD k 0 = c at *
      generalize isP k c = q at hcell
      have hbs : Below w.heap.size w (wr.setCell ⟨w.heap.size, c, none⟩ (.bool true)) := hbw.setCell (Nat.le_refl _) _
      have hc2 : (c : Int) < 256 := by omega
      go_wp2
      go_roundw
      case rel => exact ⟨k + 1, by omega, by go_num, hset, hbs⟩
      case measure => simp [intOf]; omega
    · have hk16 : k = 16 := by omega
      subst hk16
      obtain ⟨C, hC, hCs, hCi⟩ := hri
      obtain rfl : C = A := by
        apply Array.ext_getElem?
        intro j
        by_cases hj : j < 256
        · rw [hCi j hj, HGet.out j hj]; rfl
        · rw [Array.getElem?_eq_none (by omega), Array.getElem?_eq_none (by omega)]
      clear hCi
      go_wp2_with (first | (refine wpList_load_row (by rfl) 82 _ (by rfl) w.heap.size (by rfl) 82 _ (0, 0) _ hC Tryd.underlying82 (by rfl) (by rw [hA]; kernel_rfl) ?_) | (refine wpList_store_row (by rfl) 82 _ _ (by rfl) w.heap.size C (by rfl) (by rfl) 82 _ hC (by rw [hA]; kernel_rfl) (by rfl) hone ?_))
      refine bodyPost_ret (v := .tuple #[.agg C, .bool true]) (results_cell_tmp_row (p := 2) (u := 3) (ty := 82) (by rfl) _ _ w.heap.size 82 C (0, 0) _ _ (by rfl) (heapRowSame _ _ _ _ _ hC) Tryd.underlying82 (by rw [hA]; kernel_rfl) _ (by rfl)) rfl ⟨rfl, ?_⟩
      exact hbw.trans ⟨rfl, rfl, rfl, by simp [World.setRow], fun k hk => by simp only [World.setRow, Array.getElem?_modify]; rw [if_neg (by omega)]⟩
end Go.Proofs.YtfdmcnnjifggnaaDoor
