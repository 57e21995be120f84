/- Contracts of the functions that look up one thing that is known of a cell. -/
import Derived.Test.YtincekchaolebaaValI
import Derived.Test.YtincekchaolebaaValB
import Derived.Test.YtincekchaolebaaAll
import Derived.Lib.Hide
namespace Go.Proofs.Ytincekchaolebaa
open Go.RowKit

set_option maxHeartbeats 800000 in
theorem CellNumberS_any (c : Int) (ao : Option Addr) (n cap : Nat) (L : List Int) (w : World) (hr : RdI w ao L) (hn : L.length = n) (hm : n ≤ maxLen) (hcap : n ≤ cap) :
    Calls Try.prog 27 #[.int .i64 c, .slice ao n cap] w fun e w' => e = .returned (.tuple #[.int .i64 (valOfI mexI c L n), .bool (playB c L n)]) ∧ Below w.heap.size w w' := by
  obtain ⟨p, hp⟩ : ∃ p, playB c L n = p := ⟨_, rfl⟩
  have HP := Lib.hid hp
  have hon := fun h => playB_on (L := L) (n := n) (c := c) (hp.trans h)
  unfold valOfI
  rw [hp]
  clear hp
  rcases p with _ | _
  · clear hon
    have hA1 := @cellAlloc; have hA2 := @frozenAlloc; have hA3 := @setCellAlloc; go_enter Try.func27, Try.ntmps27
    go_wp2_with (first | (go_at_call 51; refine (l11Good_any _ _ _ _ L _ hr hn hm hcap).mono ?_; rw [HP.out]; rintro e w1 ⟨rfl, hb1⟩))
    go_ret2
    exact ⟨rfl, hb1⟩
  · obtain ⟨hD, hc⟩ := hon rfl
    rw [inB_iff] at hc
    obtain ⟨C, rfl⟩ := Int.eq_ofNat_of_zero_le hc.1
    have hC : C < 128 := by omega
    rw [if_pos rfl, Int.toNat_natCast, ← known_num L C hC]
    have HA := Lib.hid (fun W h => l11All_any ao n cap L W h hn hm hD)
    have HX := Lib.hid (fun W g h => (AllOwn_at (w := W) (g := g) (L := L) h C hC).1)
    have HN := Lib.hid hn
    generalize (valC L knF C).num = u at HX ⊢
    clear hD hn hon hc
    have hA1 := @cellAlloc; have hA2 := @frozenAlloc; have hA3 := @setCellAlloc; go_enter Try.func27, Try.ntmps27
    go_wp2_with (first | (go_at_call 51; refine (l11Good_any _ _ _ _ L _ hr HN.out hm hcap).mono ?_; rw [HP.out]; rintro e w1 ⟨rfl, hb1⟩) | (go_at_call 62; refine (HA.out _ (RdI_below hr hb1)).mono ?_; rintro e w2 ⟨g, rfl, hg, hall, hb2⟩; have hx := HX.out _ _ hall; have hgs := hall.1; clear hall))
    go_ret2
    exact ⟨rfl, by (repeat (first | assumption | exact Below.refl _ _ | refine belowThen ?_ (Go.Joins.below_alloc1 _ _) | apply Below.drew | refine belowThen ?_ (by assumption) | refine belowThen ?_ (Go.Joins.below_draws _ _ _) | refine Below.setCell ?_ (by first | exact Nat.le_refl _ | (simp; done) | (simp; omega)) _))⟩
theorem enters_CellNumber : Enters 65 := fun _ _ => by simp [go_sem, Try.func65]
theorem CellNumberI_any (c : Int) (ao : Option Addr) (n cap : Nat) (L : List Int) (w : World) (hr : RdI w ao L) (hn : L.length = n) (hm : n ≤ maxLen) (hcap : n ≤ cap) :
    Calls Try.prog 28 #[.int .i64 c, .slice ao n cap] w fun e w' => e = .returned (.tuple #[.int .i64 (valOfI mexI c L n), .bool (playB c L n)]) ∧ Below w.heap.size w w' := by
  have HV := Lib.hid (valueOfI_any mexI 65 c ao n cap L w hr hn hm hcap enters_CellNumber (fun c vs bo cb W _ hl hv _ => (leastAbsent_any c bo vs.length cb vs W (RdI_of_V hv) rfl (by omega)).mono fun e w' h => ⟨h.1, by rw [← h.2]; exact Below.refl _ _⟩))
  generalize valOfI mexI c L n = u at HV ⊢
  generalize playB c L n = p at HV ⊢
  clear hr hn
  go_enter Try.func28, Try.ntmps28
  go_wp2_with (first | (go_at_call 64; refine HV.out.mono ?_; rintro e w1 ⟨rfl, hb1⟩))
  go_ret2
  exact ⟨rfl, hb1⟩
set_option maxHeartbeats 800000 in
theorem MissWinsS_any (c : Int) (ao : Option Addr) (n cap : Nat) (L : List Int) (w : World) (hr : RdI w ao L) (hn : L.length = n) (hm : n ≤ maxLen) (hcap : n ≤ cap) :
    Calls Try.prog 25 #[.int .i64 c, .slice ao n cap] w fun e w' => e = .returned (.tuple #[.bool (valOfB missF c L n), .bool (playB c L n)]) ∧ Below w.heap.size w w' := by
  obtain ⟨p, hp⟩ : ∃ p, playB c L n = p := ⟨_, rfl⟩
  have HP := Lib.hid hp
  have hon := fun h => playB_on (L := L) (n := n) (c := c) (hp.trans h)
  unfold valOfB
  rw [hp]
  clear hp
  rcases p with _ | _
  · clear hon
    have hA1 := @cellAlloc; have hA2 := @frozenAlloc; have hA3 := @setCellAlloc; go_enter Try.func25, Try.ntmps25
    go_wp2_with (first | (go_at_call 51; refine (l11Good_any _ _ _ _ L _ hr hn hm hcap).mono ?_; rw [HP.out]; rintro e w1 ⟨rfl, hb1⟩))
    go_ret2
    exact ⟨rfl, hb1⟩
  · obtain ⟨hD, hc⟩ := hon rfl
    rw [inB_iff] at hc
    obtain ⟨C, rfl⟩ := Int.eq_ofNat_of_zero_le hc.1
    have hC : C < 128 := by omega
    rw [if_pos rfl, Int.toNat_natCast, ← known_miss L C hC]
    have HA := Lib.hid (fun W h => l11All_any ao n cap L W h hn hm hD)
    have HX := Lib.hid (fun W g h => (AllOwn_at (w := W) (g := g) (L := L) h C hC).2.1)
    have HN := Lib.hid hn
    generalize (valC L knF C).miss = u at HX ⊢
    clear hD hn hon hc
    have hA1 := @cellAlloc; have hA2 := @frozenAlloc; have hA3 := @setCellAlloc; go_enter Try.func25, Try.ntmps25
    go_wp2_with (first | (go_at_call 51; refine (l11Good_any _ _ _ _ L _ hr HN.out hm hcap).mono ?_; rw [HP.out]; rintro e w1 ⟨rfl, hb1⟩) | (go_at_call 62; refine (HA.out _ (RdI_below hr hb1)).mono ?_; rintro e w2 ⟨g, rfl, hg, hall, hb2⟩; have hx := HX.out _ _ hall; have hgs := hall.1; clear hall))
    go_ret2
    exact ⟨rfl, by (repeat (first | assumption | exact Below.refl _ _ | refine belowThen ?_ (Go.Joins.below_alloc1 _ _) | apply Below.drew | refine belowThen ?_ (by assumption) | refine belowThen ?_ (Go.Joins.below_draws _ _ _) | refine Below.setCell ?_ (by first | exact Nat.le_refl _ | (simp; done) | (simp; omega)) _))⟩
theorem enters_MissWins : Enters 63 := fun _ _ => by simp [go_sem, Try.func63]
theorem MissWinsI_any (c : Int) (ao : Option Addr) (n cap : Nat) (L : List Int) (w : World) (hr : RdI w ao L) (hn : L.length = n) (hm : n ≤ maxLen) (hcap : n ≤ cap) :
    Calls Try.prog 26 #[.int .i64 c, .slice ao n cap] w fun e w' => e = .returned (.tuple #[.bool (valOfB missF c L n), .bool (playB c L n)]) ∧ Below w.heap.size w w' := by
  have HV := Lib.hid (valueOfB_any missF 63 c ao n cap L w hr hn hm hcap enters_MissWins (fun c vs bo cb W _ hl hv _ => (MissWins1_any c bo vs.length cb vs W (RdB_of_V hv) rfl (by omega)).mono fun e w' h => ⟨h.1, by rw [← h.2]; exact Below.refl _ _⟩))
  generalize valOfB missF c L n = u at HV ⊢
  generalize playB c L n = p at HV ⊢
  clear hr hn
  go_enter Try.func26, Try.ntmps26
  go_wp2_with (first | (go_at_call 59; refine HV.out.mono ?_; rintro e w1 ⟨rfl, hb1⟩))
  go_ret2
  exact ⟨rfl, hb1⟩
set_option maxHeartbeats 800000 in
theorem LongestPlayS_any (c : Int) (ao : Option Addr) (n cap : Nat) (L : List Int) (w : World) (hr : RdI w ao L) (hn : L.length = n) (hm : n ≤ maxLen) (hcap : n ≤ cap) :
    Calls Try.prog 31 #[.int .i64 c, .slice ao n cap] w fun e w' => e = .returned (.tuple #[.int .i64 (valOfI longF c L n), .bool (playB c L n)]) ∧ Below w.heap.size w w' := by
  obtain ⟨p, hp⟩ : ∃ p, playB c L n = p := ⟨_, rfl⟩
  have HP := Lib.hid hp
  have hon := fun h => playB_on (L := L) (n := n) (c := c) (hp.trans h)
  unfold valOfI
  rw [hp]
  clear hp
  rcases p with _ | _
  · clear hon
    have hA1 := @cellAlloc; have hA2 := @frozenAlloc; have hA3 := @setCellAlloc; go_enter Try.func31, Try.ntmps31
    go_wp2_with (first | (go_at_call 51; refine (l11Good_any _ _ _ _ L _ hr hn hm hcap).mono ?_; rw [HP.out]; rintro e w1 ⟨rfl, hb1⟩))
    go_ret2
    exact ⟨rfl, hb1⟩
  · obtain ⟨hD, hc⟩ := hon rfl
    rw [inB_iff] at hc
    obtain ⟨C, rfl⟩ := Int.eq_ofNat_of_zero_le hc.1
    have hC : C < 128 := by omega
    rw [if_pos rfl, Int.toNat_natCast, ← known_long L C hC]
    have HA := Lib.hid (fun W h => l11All_any ao n cap L W h hn hm hD)
    have HX := Lib.hid (fun W g h => (AllOwn_at (w := W) (g := g) (L := L) h C hC).2.2.1)
    have HN := Lib.hid hn
    generalize (valC L knF C).long = u at HX ⊢
    clear hD hn hon hc
    have hA1 := @cellAlloc; have hA2 := @frozenAlloc; have hA3 := @setCellAlloc; go_enter Try.func31, Try.ntmps31
    go_wp2_with (first | (go_at_call 51; refine (l11Good_any _ _ _ _ L _ hr HN.out hm hcap).mono ?_; rw [HP.out]; rintro e w1 ⟨rfl, hb1⟩) | (go_at_call 62; refine (HA.out _ (RdI_below hr hb1)).mono ?_; rintro e w2 ⟨g, rfl, hg, hall, hb2⟩; have hx := HX.out _ _ hall; have hgs := hall.1; clear hall))
    go_ret2
    exact ⟨rfl, by (repeat (first | assumption | exact Below.refl _ _ | refine belowThen ?_ (Go.Joins.below_alloc1 _ _) | apply Below.drew | refine belowThen ?_ (by assumption) | refine belowThen ?_ (Go.Joins.below_draws _ _ _) | refine Below.setCell ?_ (by first | exact Nat.le_refl _ | (simp; done) | (simp; omega)) _))⟩
theorem enters_LongestPlay : Enters 67 := fun _ _ => by simp [go_sem, Try.func67]
theorem LongestPlayI_any (c : Int) (ao : Option Addr) (n cap : Nat) (L : List Int) (w : World) (hr : RdI w ao L) (hn : L.length = n) (hm : n ≤ maxLen) (hcap : n ≤ cap) :
    Calls Try.prog 32 #[.int .i64 c, .slice ao n cap] w fun e w' => e = .returned (.tuple #[.int .i64 (valOfI longF c L n), .bool (playB c L n)]) ∧ Below w.heap.size w w' := by
  have HV := Lib.hid (valueOfI_any longF 67 c ao n cap L w hr hn hm hcap enters_LongestPlay (fun c vs bo cb W _ hl hv _ => (LongestPlay1_any c bo vs.length cb vs W (RdI_of_V hv) rfl (by omega)).mono fun e w' h => ⟨h.1, by rw [← h.2]; exact Below.refl _ _⟩))
  generalize valOfI longF c L n = u at HV ⊢
  generalize playB c L n = p at HV ⊢
  clear hr hn
  go_enter Try.func32, Try.ntmps32
  go_wp2_with (first | (go_at_call 64; refine HV.out.mono ?_; rintro e w1 ⟨rfl, hb1⟩))
  go_ret2
  exact ⟨rfl, hb1⟩
set_option maxHeartbeats 800000 in
theorem ShortestPlayS_any (c : Int) (ao : Option Addr) (n cap : Nat) (L : List Int) (w : World) (hr : RdI w ao L) (hn : L.length = n) (hm : n ≤ maxLen) (hcap : n ≤ cap) :
    Calls Try.prog 33 #[.int .i64 c, .slice ao n cap] w fun e w' => e = .returned (.tuple #[.int .i64 (valOfI shortF c L n), .bool (playB c L n)]) ∧ Below w.heap.size w w' := by
  obtain ⟨p, hp⟩ : ∃ p, playB c L n = p := ⟨_, rfl⟩
  have HP := Lib.hid hp
  have hon := fun h => playB_on (L := L) (n := n) (c := c) (hp.trans h)
  unfold valOfI
  rw [hp]
  clear hp
  rcases p with _ | _
  · clear hon
    have hA1 := @cellAlloc; have hA2 := @frozenAlloc; have hA3 := @setCellAlloc; go_enter Try.func33, Try.ntmps33
    go_wp2_with (first | (go_at_call 51; refine (l11Good_any _ _ _ _ L _ hr hn hm hcap).mono ?_; rw [HP.out]; rintro e w1 ⟨rfl, hb1⟩))
    go_ret2
    exact ⟨rfl, hb1⟩
  · obtain ⟨hD, hc⟩ := hon rfl
    rw [inB_iff] at hc
    obtain ⟨C, rfl⟩ := Int.eq_ofNat_of_zero_le hc.1
    have hC : C < 128 := by omega
    rw [if_pos rfl, Int.toNat_natCast, ← known_short L C hC]
    have HA := Lib.hid (fun W h => l11All_any ao n cap L W h hn hm hD)
    have HX := Lib.hid (fun W g h => (AllOwn_at (w := W) (g := g) (L := L) h C hC).2.2.2.1)
    have HN := Lib.hid hn
    generalize (valC L knF C).short = u at HX ⊢
    clear hD hn hon hc
    have hA1 := @cellAlloc; have hA2 := @frozenAlloc; have hA3 := @setCellAlloc; go_enter Try.func33, Try.ntmps33
    go_wp2_with (first | (go_at_call 51; refine (l11Good_any _ _ _ _ L _ hr HN.out hm hcap).mono ?_; rw [HP.out]; rintro e w1 ⟨rfl, hb1⟩) | (go_at_call 62; refine (HA.out _ (RdI_below hr hb1)).mono ?_; rintro e w2 ⟨g, rfl, hg, hall, hb2⟩; have hx := HX.out _ _ hall; have hgs := hall.1; clear hall))
    go_ret2
    exact ⟨rfl, by (repeat (first | assumption | exact Below.refl _ _ | refine belowThen ?_ (Go.Joins.below_alloc1 _ _) | apply Below.drew | refine belowThen ?_ (by assumption) | refine belowThen ?_ (Go.Joins.below_draws _ _ _) | refine Below.setCell ?_ (by first | exact Nat.le_refl _ | (simp; done) | (simp; omega)) _))⟩
theorem enters_ShortestPlay : Enters 69 := fun _ _ => by simp [go_sem, Try.func69]
theorem ShortestPlayI_any (c : Int) (ao : Option Addr) (n cap : Nat) (L : List Int) (w : World) (hr : RdI w ao L) (hn : L.length = n) (hm : n ≤ maxLen) (hcap : n ≤ cap) :
    Calls Try.prog 34 #[.int .i64 c, .slice ao n cap] w fun e w' => e = .returned (.tuple #[.int .i64 (valOfI shortF c L n), .bool (playB c L n)]) ∧ Below w.heap.size w w' := by
  have HV := Lib.hid (valueOfI_any shortF 69 c ao n cap L w hr hn hm hcap enters_ShortestPlay (fun c vs bo cb W _ hl hv _ => (ShortestPlay1_any c bo vs.length cb vs W (RdI_of_V hv) rfl (by omega)).mono fun e w' h => ⟨h.1, by rw [← h.2]; exact Below.refl _ _⟩))
  generalize valOfI shortF c L n = u at HV ⊢
  generalize playB c L n = p at HV ⊢
  clear hr hn
  go_enter Try.func34, Try.ntmps34
  go_wp2_with (first | (go_at_call 64; refine HV.out.mono ?_; rintro e w1 ⟨rfl, hb1⟩))
  go_ret2
  exact ⟨rfl, hb1⟩
set_option maxHeartbeats 800000 in
theorem CountPlaysS_any (c : Int) (ao : Option Addr) (n cap : Nat) (L : List Int) (w : World) (hr : RdI w ao L) (hn : L.length = n) (hm : n ≤ maxLen) (hcap : n ≤ cap) :
    Calls Try.prog 29 #[.int .i64 c, .slice ao n cap] w fun e w' => e = .returned (.tuple #[.int .i64 (valOfI playsF c L n), .bool (playB c L n)]) ∧ Below w.heap.size w w' := by
  obtain ⟨p, hp⟩ : ∃ p, playB c L n = p := ⟨_, rfl⟩
  have HP := Lib.hid hp
  have hon := fun h => playB_on (L := L) (n := n) (c := c) (hp.trans h)
  unfold valOfI
  rw [hp]
  clear hp
  rcases p with _ | _
  · clear hon
    have hA1 := @cellAlloc; have hA2 := @frozenAlloc; have hA3 := @setCellAlloc; go_enter Try.func29, Try.ntmps29
    go_wp2_with (first | (go_at_call 51; refine (l11Good_any _ _ _ _ L _ hr hn hm hcap).mono ?_; rw [HP.out]; rintro e w1 ⟨rfl, hb1⟩))
    go_ret2
    exact ⟨rfl, hb1⟩
  · obtain ⟨hD, hc⟩ := hon rfl
    rw [inB_iff] at hc
    obtain ⟨C, rfl⟩ := Int.eq_ofNat_of_zero_le hc.1
    have hC : C < 128 := by omega
    rw [if_pos rfl, Int.toNat_natCast, ← known_plays L C hC]
    have HA := Lib.hid (fun W h => l11All_any ao n cap L W h hn hm hD)
    have HX := Lib.hid (fun W g h => (AllOwn_at (w := W) (g := g) (L := L) h C hC).2.2.2.2)
    have HN := Lib.hid hn
    generalize (valC L knF C).plays = u at HX ⊢
    clear hD hn hon hc
    have hA1 := @cellAlloc; have hA2 := @frozenAlloc; have hA3 := @setCellAlloc; go_enter Try.func29, Try.ntmps29
    go_wp2_with (first | (go_at_call 51; refine (l11Good_any _ _ _ _ L _ hr HN.out hm hcap).mono ?_; rw [HP.out]; rintro e w1 ⟨rfl, hb1⟩) | (go_at_call 62; refine (HA.out _ (RdI_below hr hb1)).mono ?_; rintro e w2 ⟨g, rfl, hg, hall, hb2⟩; have hx := HX.out _ _ hall; have hgs := hall.1; clear hall))
    go_ret2
    exact ⟨rfl, by (repeat (first | assumption | exact Below.refl _ _ | refine belowThen ?_ (Go.Joins.below_alloc1 _ _) | apply Below.drew | refine belowThen ?_ (by assumption) | refine belowThen ?_ (Go.Joins.below_draws _ _ _) | refine Below.setCell ?_ (by first | exact Nat.le_refl _ | (simp; done) | (simp; omega)) _))⟩
theorem enters_CountPlays : Enters 66 := fun _ _ => by simp [go_sem, Try.func66]
theorem CountPlaysI_any (c : Int) (ao : Option Addr) (n cap : Nat) (L : List Int) (w : World) (hr : RdI w ao L) (hn : L.length = n) (hm : n ≤ maxLen) (hcap : n ≤ cap) :
    Calls Try.prog 30 #[.int .i64 c, .slice ao n cap] w fun e w' => e = .returned (.tuple #[.int .i64 (valOfI playsF c L n), .bool (playB c L n)]) ∧ Below w.heap.size w w' := by
  have HV := Lib.hid (valueOfI_any playsF 66 c ao n cap L w hr hn hm hcap enters_CountPlays (fun c vs bo cb W _ hl hv _ => (CountPlays1_any c bo vs.length cb vs W (RdI_of_V hv) rfl (by omega)).mono fun e w' h => ⟨h.1, by rw [← h.2]; exact Below.refl _ _⟩))
  generalize valOfI playsF c L n = u at HV ⊢
  generalize playB c L n = p at HV ⊢
  clear hr hn
  go_enter Try.func30, Try.ntmps30
  go_wp2_with (first | (go_at_call 64; refine HV.out.mono ?_; rintro e w1 ⟨rfl, hb1⟩))
  go_ret2
  exact ⟨rfl, hb1⟩
end Go.Proofs.Ytincekchaolebaa
