/- Contracts of the functions that look up one thing that is known of a cell. -/
import Derived.Test.YtpcmlfohblglaabValI
import Derived.Test.YtpcmlfohblglaabValB
import Derived.Test.YtpcmlfohblglaabAll
import Derived.Lib.Hide
namespace Go.Proofs.Ytpcmlfohblglaab
open Go.RowKit

set_option maxHeartbeats 800000 in
theorem CellNumberS_any (c : Int) (ao : Option Addr) (n cap : Nat) (L : List Int) (w : World) (hr : RdI w ao L) (hn : L.length = n) (hm : n ≤ maxLen) (hcap : n ≤ cap) :
    Calls Try.prog 13 #[.int .i64 c, .slice ao n cap] w fun e w' => e = .returned (.tuple #[.int .i64 (valOfI mexI c L n), .bool (playB c L n)]) ∧ Below w.heap.size w w' := by
  obtain ⟨p, hp⟩ : ∃ p, playB c L n = p := ⟨_, rfl⟩
  have HP := Lib.hid hp
  have hon := fun h => playB_on (L := L) (n := n) (c := c) (hp.trans h)
  unfold valOfI
  rw [hp]
  clear hp
  rcases p with _ | _
  · clear hon
    have hA1 := @cellAlloc; have hA2 := @frozenAlloc; have hA3 := @setCellAlloc; go_enter Try.func13, Try.ntmps13
    go_wp2_with (first | (go_at_call 37; refine (l11Good_any _ _ _ _ L _ hr hn hm hcap).mono ?_; rw [HP.out]; rintro e w1 ⟨rfl, hb1⟩))
    go_ret2
    exact ⟨rfl, hb1⟩
  · obtain ⟨hD, hc⟩ := hon rfl
    rw [inB_iff] at hc
    obtain ⟨C, rfl⟩ := Int.eq_ofNat_of_zero_le hc.1
    have hC : C < 128 := by omega
    rw [if_pos rfl, Int.toNat_natCast, ← known_num L C hC]
    have HA := Lib.hid (fun W h => l11All_any ao n cap L W h hn hm hD)
    have HX := Lib.hid (fun W g h => (AllOwn_at (w := W) (g := g) (L := L) h C hC).1)
    have HN := Lib.hid hn
    generalize (valC L knF C).num = u at HX ⊢
    clear hD hn hon hc
    have hA1 := @cellAlloc; have hA2 := @frozenAlloc; have hA3 := @setCellAlloc; go_enter Try.func13, Try.ntmps13
    go_wp2_with (first | (go_at_call 37; refine (l11Good_any _ _ _ _ L _ hr HN.out hm hcap).mono ?_; rw [HP.out]; rintro e w1 ⟨rfl, hb1⟩) | (go_at_call 32; refine (HA.out _ (RdI_below hr hb1)).mono ?_; rintro e w2 ⟨g, rfl, hg, hall, hb2⟩; have hx := HX.out _ _ hall; have hgs := hall.1; clear hall))
    go_ret2
    exact ⟨rfl, by (repeat (first | assumption | exact Below.refl _ _ | refine belowThen ?_ (Go.Joins.below_alloc1 _ _) | apply Below.drew | refine belowThen ?_ (by assumption) | refine belowThen ?_ (Go.Joins.below_draws _ _ _) | refine Below.setCell ?_ (by first | exact Nat.le_refl _ | (simp; done) | (simp; omega)) _))⟩
theorem enters_CellNumber : Enters 29 := fun _ _ => by simp [go_sem, Try.func29]
theorem CellNumberI_any (c : Int) (ao : Option Addr) (n cap : Nat) (L : List Int) (w : World) (hr : RdI w ao L) (hn : L.length = n) (hm : n ≤ maxLen) (hcap : n ≤ cap) :
    Calls Try.prog 12 #[.int .i64 c, .slice ao n cap] w fun e w' => e = .returned (.tuple #[.int .i64 (valOfI mexI c L n), .bool (playB c L n)]) ∧ Below w.heap.size w w' := by
  have HV := Lib.hid (valueOfI_any mexI 29 c ao n cap L w hr hn hm hcap enters_CellNumber (fun c vs bo cb W _ hl hv _ => (leastAbsent_any c bo vs.length cb vs W (RdI_of_V hv) rfl (by omega)).mono fun e w' h => ⟨h.1, by rw [← h.2]; exact Below.refl _ _⟩))
  generalize valOfI mexI c L n = u at HV ⊢
  generalize playB c L n = p at HV ⊢
  clear hr hn
  go_enter Try.func12, Try.ntmps12
  go_wp2_with (first | (go_at_call 36; refine HV.out.mono ?_; rintro e w1 ⟨rfl, hb1⟩))
  go_ret2
  exact ⟨rfl, hb1⟩
end Go.Proofs.Ytpcmlfohblglaab
