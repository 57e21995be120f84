/- Contracts of the functions that list the winning moves. -/
import Derived.Test.YtpcmlfohblglaabMovesI
import Derived.Lib.Hide
namespace Go.Proofs.Ytpcmlfohblglaab
open Go.RowKit

def winN (R L : List Int) (m : Nat) : Nat := if goodRow R L m = true then movN R L true (R.length * 7) else 0
def winF (R L : List Int) (m : Nat) : List Int := if goodRow R L m = true then movF R L true (R.length * 7) else []
theorem winF_len (R L : List Int) (m : Nat) : (winF R L m).length = winN R L m * 2 := by
  unfold winF winN; split
  · exact movF_len _ _ _ _
  · rfl
theorem winN_le (R L : List Int) (m : Nat) : winN R L m ≤ 42 := by
  unfold winN; split
  · rename_i h
    have h1 := movN_le R L true (R.length * 7)
    have h2 := rowB_len (goodRow_row h)
    omega
  · omega
/-- A slice of pairs of the call's own, and a bool, are returned. -/
def RetPairsB (n : Nat) (F : List Int) (ok : Bool) (w : World) (e : Ending) (w' : World) : Prop := ∃ ao cap, e = .returned (.tuple #[.slice ao n cap, .bool ok]) ∧ ownsPairs w' w.heap.size (.slice ao n cap) n F ∧ Below w.heap.size w w'
set_option maxHeartbeats 400000 in
theorem WinningMovesS_any (ao : Option Addr) (n cap : Nat) (R : List Int) (bo : Option Addr) (m capL : Nat) (L : List Int) (w : World) (hr : RdI w ao R) (hn : R.length = n) (hm : n ≤ maxLen) (hcap : n ≤ cap) (hrL : RdI w bo L) (hnL : L.length = m) (hmL : m ≤ maxLen) (hcapL : m ≤ capL) :
    Calls Try.prog 9 #[.slice ao n cap, .slice bo m capL] w (RetPairsB (winN R L m) (winF R L m) (goodRow R L m) w) := by
  unfold winN winF
  have HG := Lib.hid (l11Row_any ao n cap R bo m capL L w hr hn hm hcap hrL hnL hmL hcapL)
  have hdig := goodRow_dig (R := R) (L := L) (m := m)
  have hmem := goodRow_mem (R := R) (L := L) (m := m)
  have hrow := goodRow_row (R := R) (L := L) (m := m)
  have HN := Lib.hid hn
  have HNL := Lib.hid hnL
  generalize goodRow R L m = q at HG hdig hmem hrow ⊢
  clear hnL
  rcases q with _ | _
  · clear hdig hmem hrow
    rw [if_neg (by decide), if_neg (by decide)]
    have hA1 := @cellAlloc; have hA2 := @frozenAlloc; have hA3 := @setCellAlloc; go_enter Try.func9, Try.ntmps9
    go_wp2_with (first | (go_at_call 30; refine HG.out.mono ?_; rintro e w1 ⟨rfl, hb1⟩))
    go_ret2
    exact ⟨_, _, rfl, ownsPairs_zero _ _ _, by (repeat (first | assumption | exact Below.refl _ _ | refine belowThen ?_ (Go.Joins.below_alloc1 _ _) | apply Below.drew | refine belowThen ?_ (by assumption) | refine belowThen ?_ (Go.Joins.below_draws _ _ _) | refine Below.setCell ?_ (by first | exact Nat.le_refl _ | (simp; done) | (simp; omega)) _))⟩
  · rw [if_pos rfl, if_pos rfl]
    have hn6 := rowB_len (hrow rfl)
    rw [hn] at hn6 ⊢
    have HA := Lib.hid (fun W h => l11All_any bo m capL L W h HNL.out hmL (hdig rfl))
    have hR1 : ∀ x ∈ R, inB 0 127 x = true := fun x hx => (hmem rfl x hx).1
    have HS := Lib.hid (fun g W h h2 hall => l11Moves_any ao n cap R bo m capL L g true W h HN.out hn6 hR1 h2 HNL.out hmL (hdig rfl) hall)
    generalize movN R L true (n * 7) = s at HS ⊢
    generalize movF R L true (n * 7) = F at HS ⊢
    clear hdig hmem hR1 hn hrow
    have hA1 := @cellAlloc; have hA2 := @frozenAlloc; have hA3 := @setCellAlloc; go_enter Try.func9, Try.ntmps9
    go_wp2_with (first | (go_at_call 30; refine HG.out.mono ?_; rintro e w1 ⟨rfl, hb1⟩) | (go_at_call 32; refine (HA.out _ (RdI_below hrL hb1)).mono ?_; rintro e w2 ⟨g, rfl, hg, hall, hb2⟩) | (go_at_call 34; refine (HS.out g _ (RdI_below (RdI_below hr hb1) hb2) (RdI_below (RdI_below hrL hb1) hb2) hall).mono ?_; rintro e w3 ⟨co, cc, rfl, hown, hb3⟩))
    go_ret2
    exact ⟨co, cc, rfl, ownsPairs_below hown (Below.refl _ _) (belowThen hb1 hb2).size, by (repeat (first | assumption | exact Below.refl _ _ | refine belowThen ?_ (Go.Joins.below_alloc1 _ _) | apply Below.drew | refine belowThen ?_ (by assumption) | refine belowThen ?_ (Go.Joins.below_draws _ _ _) | refine Below.setCell ?_ (by first | exact Nat.le_refl _ | (simp; done) | (simp; omega)) _))⟩
set_option maxHeartbeats 400000 in
theorem WinningMovesI_any (ao : Option Addr) (n cap : Nat) (R : List Int) (bo : Option Addr) (m capL : Nat) (L : List Int) (w : World) (hr : RdI w ao R) (hn : R.length = n) (hm : n ≤ maxLen) (hcap : n ≤ cap) (hrL : RdI w bo L) (hnL : L.length = m) (hmL : m ≤ maxLen) (hcapL : m ≤ capL) :
    Calls Try.prog 8 #[.slice ao n cap, .slice bo m capL] w (RetPairsB (winN R L m) (winF R L m) (goodRow R L m) w) := by
  unfold winN winF
  have HG := Lib.hid (isPlayableRow_any ao n cap R bo m capL L w hr hn hm hcap hrL hnL hmL hcapL)
  have hdig := goodRow_dig (R := R) (L := L) (m := m)
  have hmem := goodRow_mem (R := R) (L := L) (m := m)
  have hrow := goodRow_row (R := R) (L := L) (m := m)
  have HN := Lib.hid hn
  have HNL := Lib.hid hnL
  generalize goodRow R L m = q at HG hdig hmem hrow ⊢
  clear hnL
  rcases q with _ | _
  · clear hdig hmem hrow
    rw [if_neg (by decide), if_neg (by decide)]
    have hA1 := @cellAlloc; have hA2 := @frozenAlloc; have hA3 := @setCellAlloc; go_enter Try.func8, Try.ntmps8
    go_wp2_with (first | (go_at_call 26; refine HG.out.mono ?_; rintro e w1 ⟨rfl, hb1⟩))
    go_ret2
    exact ⟨_, _, rfl, ownsPairs_nil _ _, by (repeat (first | assumption | exact Below.refl _ _ | refine belowThen ?_ (Go.Joins.below_alloc1 _ _) | apply Below.drew | refine belowThen ?_ (by assumption) | refine belowThen ?_ (Go.Joins.below_draws _ _ _) | refine Below.setCell ?_ (by first | exact Nat.le_refl _ | (simp; done) | (simp; omega)) _))⟩
  · rw [if_pos rfl, if_pos rfl]
    have hn6 := rowB_len (hrow rfl)
    rw [hn] at hn6 ⊢
    have HT := Lib.hid (fun W h => tableI_any mexI 29 bo m capL L W h HNL.out hmL (hdig rfl) enters_least (fun c vs bo cb W _ hl hv _ => (leastAbsent_any c bo vs.length cb vs W (RdI_of_V hv) rfl (by omega)).mono fun e w' h => ⟨h.1, by rw [← h.2]; exact Below.refl _ _⟩))
    have HM := Lib.hid (hmem rfl)
    have HS := Lib.hid (fun b W h h2 hmap => moves_any ao n cap R bo m capL L b 128 W h HN.out hn6 HM.out h2 HNL.out hmL (hdig rfl) hmap)
    generalize movN R L true (n * 7) = s at HS ⊢
    generalize movF R L true (n * 7) = F at HS ⊢
    generalize movN R L false (n * 7) = s0 at HS
    generalize movF R L false (n * 7) = F0 at HS
    clear hdig hmem hn hrow
    have hA1 := @cellAlloc; have hA2 := @frozenAlloc; have hA3 := @setCellAlloc; go_enter Try.func8, Try.ntmps8
    go_wp2_with (first | (go_at_call 26; refine HG.out.mono ?_; rintro e w1 ⟨rfl, hb1⟩) | (go_at_call 28; refine (HT.out _ (RdI_below hrL hb1)).mono ?_; rintro e w2 ⟨rfl, hmap, hb2⟩) | (go_at_call 33; refine (HS.out _ _ (RdI_below (RdI_below hr hb1) hb2) (RdI_below (RdI_below hrL hb1) hb2) hmap).mono ?_; rintro e w3 ⟨ca, cca, co, cc, rfl, _, hown, hb3⟩))
    go_ret2
    exact ⟨co, cc, rfl, ownsPairs_below hown (Below.refl _ _) (belowThen hb1 hb2).size, by (repeat (first | assumption | exact Below.refl _ _ | refine belowThen ?_ (Go.Joins.below_alloc1 _ _) | apply Below.drew | refine belowThen ?_ (by assumption) | refine belowThen ?_ (Go.Joins.below_draws _ _ _) | refine Below.setCell ?_ (by first | exact Nat.le_refl _ | (simp; done) | (simp; omega)) _))⟩
end Go.Proofs.Ytpcmlfohblglaab
