/- Contracts of the functions that tell whether who is to light a bar wins. -/
import Derived.Test.YtpcmlfohblglaabNim
import Derived.Lib.Hide
namespace Go.Proofs.Ytpcmlfohblglaab
open Go.RowKit

/-- Who is to light a bar wins. -/
def winB (R L : List Int) (m : Nat) : Bool := goodRow R L m && (((nimN L R : Nat) : Int) != 0)
set_option maxHeartbeats 400000 in
theorem LightWinsS_any (ao : Option Addr) (n cap : Nat) (R : List Int) (bo : Option Addr) (m capL : Nat) (L : List Int) (w : World) (hr : RdI w ao R) (hn : R.length = n) (hm : n ≤ maxLen) (hcap : n ≤ cap) (hrL : RdI w bo L) (hnL : L.length = m) (hmL : m ≤ maxLen) (hcapL : m ≤ capL) :
    Calls Try.prog 7 #[.slice ao n cap, .slice bo m capL] w fun e w' => e = .returned (.tuple #[.bool (winB R L m), .bool (goodRow R L m)]) ∧ Below w.heap.size w w' := by
  unfold winB
  have HG := Lib.hid (l11Row_any ao n cap R bo m capL L w hr hn hm hcap hrL hnL hmL hcapL)
  have hdig := goodRow_dig (R := R) (L := L) (m := m)
  have hmem := goodRow_mem (R := R) (L := L) (m := m)
  have HN := Lib.hid hn
  have HNL := Lib.hid hnL
  generalize goodRow R L m = q at HG hdig hmem ⊢
  clear hn hnL
  rcases q with _ | _
  · clear hdig hmem
    go_enter Try.func7, Try.ntmps7
    go_wp2_with (first | (go_at_call 30; refine HG.out.mono ?_; rintro e w1 ⟨rfl, hb1⟩))
    go_ret2
    exact ⟨rfl, hb1⟩
  · have HA := Lib.hid (fun W h => l11All_any bo m capL L W h HNL.out hmL (hdig rfl))
    have hR1 : ∀ x ∈ R, inB 0 127 x = true := fun x hx => (hmem rfl x hx).1
    have HS := Lib.hid (fun g W h hall => l11Sum_any ao n cap R L g W h HN.out hm hR1 hall)
    generalize nimN L R = s at HS ⊢
    clear hdig hmem hR1
    go_enter Try.func7, Try.ntmps7
    go_wp2_with (first | (go_at_call 30; refine HG.out.mono ?_; rintro e w1 ⟨rfl, hb1⟩) | (go_at_call 32; refine (HA.out _ (RdI_below hrL hb1)).mono ?_; rintro e w2 ⟨g, rfl, hg, hall, hb2⟩) | (go_at_call 31; refine (HS.out g _ (RdI_below (RdI_below hr hb1) hb2) hall).mono ?_; rintro e w' ⟨rfl, rfl⟩))
    go_ret2
    exact ⟨rfl, belowThen hb1 hb2⟩
set_option maxHeartbeats 400000 in
theorem LightWinsI_any (ao : Option Addr) (n cap : Nat) (R : List Int) (bo : Option Addr) (m capL : Nat) (L : List Int) (w : World) (hr : RdI w ao R) (hn : R.length = n) (hm : n ≤ maxLen) (hcap : n ≤ cap) (hrL : RdI w bo L) (hnL : L.length = m) (hmL : m ≤ maxLen) (hcapL : m ≤ capL) :
    Calls Try.prog 6 #[.slice ao n cap, .slice bo m capL] w fun e w' => e = .returned (.tuple #[.bool (winB R L m), .bool (goodRow R L m)]) ∧ Below w.heap.size w w' := by
  unfold winB
  have HG := Lib.hid (isPlayableRow_any ao n cap R bo m capL L w hr hn hm hcap hrL hnL hmL hcapL)
  have hdig := goodRow_dig (R := R) (L := L) (m := m)
  have hmem := goodRow_mem (R := R) (L := L) (m := m)
  have HN := Lib.hid hn
  have HNL := Lib.hid hnL
  generalize goodRow R L m = q at HG hdig hmem ⊢
  clear hn hnL
  rcases q with _ | _
  · clear hdig hmem
    go_enter Try.func6, Try.ntmps6
    go_wp2_with (first | (go_at_call 26; refine HG.out.mono ?_; rintro e w1 ⟨rfl, hb1⟩))
    go_ret2
    exact ⟨rfl, hb1⟩
  · have HT := Lib.hid (fun W h => tableI_any mexI 29 bo m capL L W h HNL.out hmL (hdig rfl) enters_least (fun c vs bo cb W _ hl hv _ => (leastAbsent_any c bo vs.length cb vs W (RdI_of_V hv) rfl (by omega)).mono fun e w' h => ⟨h.1, by rw [← h.2]; exact Below.refl _ _⟩))
    have HM := Lib.hid (hmem rfl)
    have HS := Lib.hid (fun b W h hmap => nim_any ao n cap R L b 128 W h HN.out hm HM.out hmap)
    generalize nimN L R = s at HS ⊢
    clear hdig hmem
    go_enter Try.func6, Try.ntmps6
    go_wp2_with (first | (go_at_call 26; refine HG.out.mono ?_; rintro e w1 ⟨rfl, hb1⟩) | (go_at_call 28; refine (HT.out _ (RdI_below hrL hb1)).mono ?_; rintro e w2 ⟨rfl, hmap, hb2⟩) | (go_at_call 27; refine (HS.out _ _ (RdI_below (RdI_below hr hb1) hb2) hmap).mono ?_; rintro e w' ⟨rfl, rfl⟩))
    go_ret2
    exact ⟨rfl, belowThen hb1 hb2⟩
end Go.Proofs.Ytpcmlfohblglaab
