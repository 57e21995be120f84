/- Joined texts: TabB, ValB, Five. -/
import Derived.Test.YtcddfpbohejhhaaGreatMg05
import Derived.Test.YtcddfpbohejhhaaGreatMg02
import Derived.Lib.Hide
import Derived.Test.YtcddfpbohejhhaaGreatMg10
namespace Go.Proofs.YtcddfpbohejhhaaGreat
open Go.RowKit

theorem infoB : (Tryz.prog.info? 4).map (fun i => (i.zero, i.size, i.bytes)) = some (some (.bool false), 1, 1) := by kernel_rfl
theorem take_map_succB {β : Type} (f : Nat → β) (l : List Nat) (j : Nat) (h : j < l.length) : (l.take (j + 1)).map f = (l.take j).map f ++ [f (l.getD j 0)] := by
  rw [List.take_add_one, List.map_append, List.getElem?_eq_getElem h, List.getD_eq_getElem?_getD, List.getElem?_eq_getElem h]
  rfl
/-- m[k], its value known. -/
theorem wpLookVB (w : World) {ops : Array Oper} {rest : List Oper} {o : Oper} {a : Act} {Q : Exit → Act → World → Prop} (hg : o.guard = none) (m x : Operand) (t : TypeId) (hop : o.op = Op.lookup t m x false)
    (e : TypeId) (ht : Tryz.prog.underlying t = some (.map 3 e)) (z : Value) (hz : (zeroValue e).run Tryz.prog w = .ok z w) (b n : Nat) (f : Int → Value) (hm : a.eval m = .map (some b)) (h : mapV w b n z f)
    (k : Int) (hx : a.eval x = .int .i64 k) (hwf : (Lit.int .i64 k).wf = true) (v : Value) (hv : f k = v) (hK : wpList Tryz.prog ops Q rest (a.put o.dst v) w) : wpList Tryz.prog ops Q (o :: rest) a w :=
  wpLookV w hg m x t hop e ht z hz b n f hm h k hx hwf (by rw [hv]; exact hK)
theorem mapStepB {L : List Int} {f : Nat → Bool} {c : Nat} {u : Bool} (hc : c < 128) (hway : wayB (c : Int) L = true) (hu : f c = u) (k : Int) :
    (if k = (c : Int) then Value.bool u else (if ((c + 1 : Nat) : Int) ≤ k ∧ k < 128 ∧ wayB k L = true then Value.bool (f k.toNat) else (.bool false))) = if (c : Int) ≤ k ∧ k < 128 ∧ wayB k L = true then Value.bool (f k.toNat) else (.bool false) := by
  by_cases hk : k = (c : Int)
  · subst hk
    rw [if_pos rfl, if_pos ⟨Int.le_refl _, by omega, hway⟩, Int.toNat_natCast, hu]
  · rw [if_neg hk]
    by_cases h : ((c + 1 : Nat) : Int) ≤ k ∧ k < 128 ∧ wayB k L = true
    · rw [if_pos h, if_pos ⟨by omega, h.2⟩]
    · rw [if_neg h, if_neg (fun g => h ⟨by omega, g.2⟩)]
theorem mapSkipB {L : List Int} {f : Nat → Bool} {c : Nat} (hway : wayB (c : Int) L = false) (k : Int) :
    (if ((c + 1 : Nat) : Int) ≤ k ∧ k < 128 ∧ wayB k L = true then Value.bool (f k.toNat) else (.bool false)) = if (c : Int) ≤ k ∧ k < 128 ∧ wayB k L = true then Value.bool (f k.toNat) else (.bool false) := by
  by_cases h : ((c + 1 : Nat) : Int) ≤ k ∧ k < 128 ∧ wayB k L = true
  · rw [if_pos h, if_pos ⟨by omega, h.2⟩]
  · rw [if_neg h, if_neg]
    rintro ⟨h1, h2, h3⟩
    refine h ⟨?_, h2, h3⟩
    rcases Int.lt_or_eq_of_le h1 with h4 | h4
    · omega
    · subst h4; rw [hway] at h3; exact absurd h3 (by decide)
set_option maxRecDepth 100000 in
set_option maxHeartbeats 1600000 in
theorem tableB_any (F : Nat → List Bool → Bool) (K : Nat) (ao : Option Addr) (n cap : Nat) (L : List Int) (w : World) (hr : RdI w ao L) (hn : L.length = n) (hm : n ≤ maxLen) (hD : allDig L) (hK : Enters K)
    (hF : ∀ (c : Nat) (vs : List Bool) (bo : Option Addr) (cb : Nat) (W : World), c < 128 → vs.length ≤ 7 → RdV W bo (vs.map (Value.bool)) → Below w.heap.size w W → Calls Tryz.prog K #[.int .i64 c, .slice bo vs.length cb] W fun e w' => e = .returned (Value.bool (F c vs)) ∧ Below W.heap.size W w') :
    Calls Tryz.prog 76 #[.slice ao n cap, .func (.func K) #[] #[]] w fun e w' => e = .returned (.map (some w.heap.size)) ∧ mapV w' w.heap.size 128 (.bool false) (fun k => if 0 ≤ k ∧ k < 128 ∧ wayB k L = true then Value.bool (valC L F k.toNat) else (.bool false)) ∧ Below w.heap.size w w' := by
  have HD := Lib.hid hD
  have HN := Lib.hid hn
  have HF := Lib.hid hF
  clear hD hn hF
  unfold Enters at hK
  have hA1 := @cellAlloc; have hA2 := @frozenAlloc; have hA3 := @setCellAlloc; go_enter Tryz.func76, Tryz.ntmps76
  have hmm := @run_makeMap Tryz.prog
  go_wp2
  go_loopw [6] (fun c wr => ∃ m : Nat, m ≤ 128 ∧ c = .int .i64 ((m : Int) - 1) ∧ mapV wr w.heap.size (128 - m) (.bool false) (fun k => if (m : Int) ≤ k ∧ k < 128 ∧ wayB k L = true then Value.bool (valC L F k.toNat) else (.bool false)) ∧ Below w.heap.size w wr) (fun c _ => (intOf c + 1).toNat)
  case atStart => exact ⟨128, by omega, rfl, mapV_congr (mapV_made w _) (fun k => by rw [if_neg (by omega)]), Go.Joins.below_alloc1 _ _⟩
  case round =>
    obtain ⟨m, hle, rfl, hmap, hbw⟩ := hrel
    rcases m with _ | c
    · go_wp2
      go_ret
      exact ⟨rfl, hmap, hbw⟩
    · rw [show ((c + 1 : Nat) : Int) - 1 = (c : Int) by omega]
      have hc : c < 128 := by omega
      by_cases hway : wayB (c : Int) L = true
      · go_wp2_with (first | (go_at_call 79; refine (isOnWay_any _ _ _ _ L _ (RdI_below hr hbw) HN.out hm HD.out).mono ?_; rw [hway]; rintro e w1 ⟨rfl, hb1⟩) | (go_at_call 88; refine (lit_any c hc _ _ _ L _ (RdI_below hr (belowThen hbw hb1)) HN.out hm HD.out).mono ?_; rintro e w2 ⟨bo, cb, rfl, hown2, hb2⟩))
        have hmap2 := mapV_below hmap (belowThen hb1 hb2)
        have hbw2 := belowThen (belowThen hbw hb1) hb2
        have hRd := RdI_owns hown2
        have hlen := litP_le L c 7
        obtain ⟨l, hl⟩ : ∃ l, litL L c = l := ⟨_, rfl⟩
        have hmem : ∀ x, x ∈ l → c < x ∧ x < 128 ∧ wayB (x : Int) L = true := by rw [← hl]; exact fun x hx => litP_mem hc (Nat.le_refl 7) hx
        change (litL L c).length ≤ 7 at hlen
        have HV := Lib.hid (valC_eq L F c hc)
        rw [hl] at hRd hlen hown2 HV ⊢
        clear hmap hb1 hb2 hbw hown2 hl
        go_wp2_with fail
        go_loopw [7, 23] (fun v i wr => ∃ j : Nat, j ≤ l.length ∧ i = .int .i64 j ∧ ownsV wr w2.heap.size 4 v ((l.take j).map fun x => Value.bool (valC L F x)) ∧ Below w2.heap.size w2 wr) (fun _ i _ => l.length - (intOf i).toNat)
        case atStart => exact ⟨0, by omega, rfl, ownsV_nil _ _ _, Below.refl _ _⟩
        case round =>
          obtain ⟨j, hj, rfl, hown, hbi⟩ := hrel
          by_cases hlt : j < l.length
          · have hd : decide ((j : Int) < (l.length : Int)) = true := by simp; omega
            rcases RdI_below hRd hbi with h | ⟨b1, o1, rfl, hb1, hc1⟩
            · have := congrArg List.length h; rw [ints_length, List.length_nil] at this; omega
            have hx := hc1 j (by rw [ints_length]; exact hlt)
            rw [ints_getD] at hx
            have hm1 := hmem (l.getD j 0) (by rw [List.getD_eq_getElem?_getD, List.getElem?_eq_getElem hlt]; exact List.getElem_mem _)
            have hsucc : (l.take (j + 1)).map (fun x => Value.bool (valC L F x)) = (l.take j).map (fun x => Value.bool (valC L F x)) ++ [Value.bool (valC L F (l.getD j 0))] := take_map_succB _ l j hlt
            generalize l.getD j 0 = x at hx hm1 hsucc
            have hmapr := mapV_below hmap2 hbi
            have hfx : (if ((c + 1 : Nat) : Int) ≤ (x : Int) ∧ (x : Int) < 128 ∧ wayB (x : Int) L = true then Value.bool (valC L F (x : Int).toNat) else (.bool false)) = Value.bool (valC L F x) := by
              rw [if_pos ⟨by omega, by omega, hm1.2.2⟩]; rfl
            generalize valC L F x = u at hfx hsucc
            have HS := Lib.hid hsucc
            have HX := Lib.hid hfx
            clear hc1 hsucc hfx hmap2 hRd
            go_wp2_with (first | (at_lookup; refine wpLookVB _ (by rfl) _ _ _ (by rfl) _ (Tryz.underlying85) _ (by rfl) w.heap.size _ _ (by rfl) hmapr (x : Int) (by rfl) (wf128 x hm1.2.1) (Value.bool u) HX.out ?_) | (at_builtin; refine wpAppendV wr (by rfl) _ _ 58 4 (.bool false) 1 (by rfl) (Tryz.underlying58) infoB (by rfl) (by decide) w2.heap.size _ _ (by rfl) hown (Value.bool u) (by rfl) _ (by rfl) (by rw [List.length_map, List.length_take]; omega) hbi.size ?_; intro co cc w4 hv4 hb4))
            go_roundw
            case rel => exact ⟨j + 1, by omega, by go_num, by rw [HS.out]; rw [List.length_map, List.length_take, Nat.min_eq_left (Nat.le_of_lt hlt)] at hv4; exact hv4, hbi.trans hb4⟩
            case measure => simp [intOf]; omega
          · have hje : j = l.length := by omega
            subst hje
            rw [List.take_length] at hown
            obtain ⟨no, nc, rfl, hrv⟩ := ownsV_shape hown
            have hcall := HF.out c (l.map (valC L F)) no nc wr hc (by rw [List.length_map]; exact hlen) (by rw [List.map_map]; exact hrv) (belowThen hbw2 hbi)
            rw [List.length_map, ← HV.out] at hcall
            have hmapr := mapV_below hmap2 hbi
            have hbr := belowThen hbw2 hbi
            have HC := Lib.hid hcall
            rw [List.length_map]
            clear hcall hrv hown hmap2 hRd hbi hbw2 hmem
            go_wp2_with fail
            refine HC.out.mono ?_
            rintro e w5 ⟨rfl, hb5⟩
            have hmap5 := mapV_below hmapr hb5
            have hbr5 := belowThen hbr hb5
            generalize hu : valC L F c = u
            have HU := Lib.hid hu
            clear hmapr hbr hb5 hu
            go_wp2_with (at_mapUpdate; refine wpUpdV _ (by rfl) _ _ _ _ (by rfl) _ (Tryz.underlying85) _ w.heap.size _ _ (by rfl) hmap5 (by omega) (c : Int) (by rfl) (wf128 c hc) _ (by rfl) ?_; intro w6 hm6 hg6)
            go_roundw
            case rel => exact ⟨c, by omega, by first | rfl | go_num, mapV_congr (mapV_mono hm6 (by omega)) (fun k => mapStepB (by omega) hway HU.out k), below_grown hbr5 hg6 (Nat.le_refl _)⟩
            case measure => first | (simp [intOf]; done) | (simp [intOf]; omega)
      · rw [Bool.not_eq_true] at hway
        go_wp2_with (first | (go_at_call 79; refine (isOnWay_any _ _ _ _ L _ (RdI_below hr hbw) HN.out hm HD.out).mono ?_; rw [hway]; rintro e w1 ⟨rfl, hb1⟩))
        go_roundw
        case rel => exact ⟨c, by omega, by first | rfl | go_num, mapV_congr (mapV_mono (mapV_below hmap hb1) (by omega)) (fun k => mapSkipB hway k), belowThen hbw hb1⟩
        case measure => first | (simp [intOf]; done) | (simp [intOf]; omega)
end Go.Proofs.YtcddfpbohejhhaaGreat

namespace Go.Proofs.YtcddfpbohejhhaaGreat
open Go.RowKit

/-- What is looked up. -/
def valOfB (F : Nat → List Bool → Bool) (c : Int) (L : List Int) (n : Nat) : Bool := if playB c L n = true then valC L F c.toNat else false
set_option maxRecDepth 100000 in
set_option maxHeartbeats 800000 in
theorem valueOfB_any (F : Nat → List Bool → Bool) (K : Nat) (c : Int) (ao : Option Addr) (n cap : Nat) (L : List Int) (w : World) (hr : RdI w ao L) (hn : L.length = n) (hm : n ≤ maxLen) (hcap : n ≤ cap) (hK : Enters K)
    (hF : ∀ (c : Nat) (vs : List Bool) (bo : Option Addr) (cb : Nat) (W : World), c < 128 → vs.length ≤ 7 → RdV W bo (vs.map (Value.bool)) → Below w.heap.size w W → Calls Tryz.prog K #[.int .i64 c, .slice bo vs.length cb] W fun e w' => e = .returned (Value.bool (F c vs)) ∧ Below W.heap.size W w') :
    Calls Tryz.prog 42 #[.int .i64 c, .slice ao n cap, .func (.func K) #[] #[]] w fun e w' => e = .returned (.tuple #[Value.bool (valOfB F c L n), .bool (playB c L n)]) ∧ Below w.heap.size w w' := by
  unfold valOfB
  generalize hp : playB c L n = p
  have HP := Lib.hid hp
  have hon := fun h => playB_on (L := L) (n := n) (c := c) (hp.trans h)
  have hway : p = true → wayB c L = true := by intro h; rw [← hp] at h; unfold playB at h; rw [Bool.and_eq_true] at h; exact h.2
  clear hp
  have HF := Lib.hid hF
  clear hF
  rcases p with _ | _
  · clear hway hon
    have hA1 := @cellAlloc; have hA2 := @frozenAlloc; have hA3 := @setCellAlloc; go_enter Tryz.func42, Tryz.ntmps42
    go_wp2_with (first | (go_at_call 45; refine (isPlayable_any _ _ _ _ L _ hr hn hm hcap).mono ?_; rw [HP.out]; rintro e w1 ⟨rfl, hb1⟩))
    go_ret2
    exact ⟨rfl, hb1⟩
  · obtain ⟨hD, hc⟩ := hon rfl
    have hw := hway rfl
    rw [inB_iff] at hc
    obtain ⟨C, rfl⟩ := Int.eq_ofNat_of_zero_le hc.1
    have hC : C < 128 := by omega
    rw [if_pos rfl, Int.toNat_natCast]
    have HD := Lib.hid hD
    have HN := Lib.hid hn
    clear hD hc hon hn hway
    have hfx : (if 0 ≤ (C : Int) ∧ (C : Int) < 128 ∧ wayB (C : Int) L = true then Value.bool (valC L F (C : Int).toNat) else (.bool false)) = Value.bool (valC L F C) := by
      rw [if_pos ⟨by omega, by omega, hw⟩]; rfl
    generalize valC L F C = u at hfx
    have HX := Lib.hid hfx
    have HK := Lib.hid hK
    clear hfx hw hK
    have hA1 := @cellAlloc; have hA2 := @frozenAlloc; have hA3 := @setCellAlloc; go_enter Tryz.func42, Tryz.ntmps42
    go_wp2_with (first | (go_at_call 45; refine (isPlayable_any _ _ _ _ L _ hr HN.out hm hcap).mono ?_; rw [HP.out]; rintro e w1 ⟨rfl, hb1⟩) | (go_at_call 76; refine (tableB_any F K _ _ _ L _ (RdI_below hr hb1) HN.out hm HD.out HK.out (fun c vs bo cb W h1 h2 h3 h4 => HF.out c vs bo cb W h1 h2 h3 (belowThen hb1 h4))).mono ?_; rintro e w2 ⟨rfl, hmap, hb2⟩) | (at_lookup; refine wpLookVB _ (by rfl) _ _ _ (by rfl) _ (Tryz.underlying85) _ (by rfl) w1.heap.size _ _ (by rfl) hmap (C : Int) (by rfl) (wf128 C hC) (Value.bool u) HX.out ?_))
    go_ret2
    exact ⟨rfl, belowThen hb1 hb2⟩
end Go.Proofs.YtcddfpbohejhhaaGreat

namespace Go.Proofs.YtcddfpbohejhhaaGreat
open Go.RowKit

theorem enters_CellNumber : Enters 53 := fun _ _ => by simp [go_sem, Tryz.func53]
set_option maxHeartbeats 800000 in
theorem MissWinsS_any (c : Int) (ao : Option Addr) (n cap : Nat) (L : List Int) (w : World) (hr : RdI w ao L) (hn : L.length = n) (hm : n ≤ maxLen) (hcap : n ≤ cap) :
    Calls Tryz.prog 16 #[.int .i64 c, .slice ao n cap] w fun e w' => e = .returned (.tuple #[.bool (valOfB missF c L n), .bool (playB c L n)]) ∧ Below w.heap.size w w' := by
  obtain ⟨p, hp⟩ : ∃ p, playB c L n = p := ⟨_, rfl⟩
  have HP := Lib.hid hp
  have hon := fun h => playB_on (L := L) (n := n) (c := c) (hp.trans h)
  unfold valOfB
  rw [hp]
  clear hp
  rcases p with _ | _
  · clear hon
    have hA1 := @cellAlloc; have hA2 := @frozenAlloc; have hA3 := @setCellAlloc; go_enter Tryz.func16, Tryz.ntmps16
    go_wp2_with (first | (go_at_call 32; refine (l11Good_any _ _ _ _ L _ hr hn hm hcap).mono ?_; rw [HP.out]; rintro e w1 ⟨rfl, hb1⟩))
    go_ret2
    exact ⟨rfl, hb1⟩
  · obtain ⟨hD, hc⟩ := hon rfl
    rw [inB_iff] at hc
    obtain ⟨C, rfl⟩ := Int.eq_ofNat_of_zero_le hc.1
    have hC : C < 128 := by omega
    rw [if_pos rfl, Int.toNat_natCast, ← known_miss L C hC]
    have HA := Lib.hid (fun W h => l11All_any ao n cap L W h hn hm hD)
    have HX := Lib.hid (fun W g h => (AllOwn_at (w := W) (g := g) (L := L) h C hC).2.1)
    have HN := Lib.hid hn
    generalize (valC L knF C).miss = u at HX ⊢
    clear hD hn hon hc
    have hA1 := @cellAlloc; have hA2 := @frozenAlloc; have hA3 := @setCellAlloc; go_enter Tryz.func16, Tryz.ntmps16
    go_wp2_with (first | (go_at_call 32; refine (l11Good_any _ _ _ _ L _ hr HN.out hm hcap).mono ?_; rw [HP.out]; rintro e w1 ⟨rfl, hb1⟩) | (go_at_call 35; refine (HA.out _ (RdI_below hr hb1)).mono ?_; rintro e w2 ⟨g, rfl, hg, hall, hb2⟩; have hx := HX.out _ _ hall; have hgs := hall.1; clear hall))
    go_ret2
    exact ⟨rfl, by (repeat (first | assumption | exact Below.refl _ _ | refine belowThen ?_ (Go.Joins.below_alloc1 _ _) | apply Below.drew | refine belowThen ?_ (by assumption) | refine belowThen ?_ (Go.Joins.below_draws _ _ _) | refine Below.setCell ?_ (by first | exact Nat.le_refl _ | (simp; done) | (simp; omega)) _))⟩
theorem enters_MissWins : Enters 43 := fun _ _ => by simp [go_sem, Tryz.func43]
theorem MissWinsI_any (c : Int) (ao : Option Addr) (n cap : Nat) (L : List Int) (w : World) (hr : RdI w ao L) (hn : L.length = n) (hm : n ≤ maxLen) (hcap : n ≤ cap) :
    Calls Tryz.prog 15 #[.int .i64 c, .slice ao n cap] w fun e w' => e = .returned (.tuple #[.bool (valOfB missF c L n), .bool (playB c L n)]) ∧ Below w.heap.size w w' := by
  have HV := Lib.hid (valueOfB_any missF 43 c ao n cap L w hr hn hm hcap enters_MissWins (fun c vs bo cb W _ hl hv _ => (MissWins1_any c bo vs.length cb vs W (RdB_of_V hv) rfl (by omega)).mono fun e w' h => ⟨h.1, by rw [← h.2]; exact Below.refl _ _⟩))
  generalize valOfB missF c L n = u at HV ⊢
  generalize playB c L n = p at HV ⊢
  clear hr hn
  go_enter Tryz.func15, Tryz.ntmps15
  go_wp2_with (first | (go_at_call 42; refine HV.out.mono ?_; rintro e w1 ⟨rfl, hb1⟩))
  go_ret2
  exact ⟨rfl, hb1⟩
set_option maxHeartbeats 800000 in
theorem LongestPlayS_any (c : Int) (ao : Option Addr) (n cap : Nat) (L : List Int) (w : World) (hr : RdI w ao L) (hn : L.length = n) (hm : n ≤ maxLen) (hcap : n ≤ cap) :
    Calls Tryz.prog 10 #[.int .i64 c, .slice ao n cap] w fun e w' => e = .returned (.tuple #[.int .i64 (valOfI longF c L n), .bool (playB c L n)]) ∧ Below w.heap.size w w' := by
  obtain ⟨p, hp⟩ : ∃ p, playB c L n = p := ⟨_, rfl⟩
  have HP := Lib.hid hp
  have hon := fun h => playB_on (L := L) (n := n) (c := c) (hp.trans h)
  unfold valOfI
  rw [hp]
  clear hp
  rcases p with _ | _
  · clear hon
    have hA1 := @cellAlloc; have hA2 := @frozenAlloc; have hA3 := @setCellAlloc; go_enter Tryz.func10, Tryz.ntmps10
    go_wp2_with (first | (go_at_call 32; refine (l11Good_any _ _ _ _ L _ hr hn hm hcap).mono ?_; rw [HP.out]; rintro e w1 ⟨rfl, hb1⟩))
    go_ret2
    exact ⟨rfl, hb1⟩
  · obtain ⟨hD, hc⟩ := hon rfl
    rw [inB_iff] at hc
    obtain ⟨C, rfl⟩ := Int.eq_ofNat_of_zero_le hc.1
    have hC : C < 128 := by omega
    rw [if_pos rfl, Int.toNat_natCast, ← known_long L C hC]
    have HA := Lib.hid (fun W h => l11All_any ao n cap L W h hn hm hD)
    have HX := Lib.hid (fun W g h => (AllOwn_at (w := W) (g := g) (L := L) h C hC).2.2.1)
    have HN := Lib.hid hn
    generalize (valC L knF C).long = u at HX ⊢
    clear hD hn hon hc
    have hA1 := @cellAlloc; have hA2 := @frozenAlloc; have hA3 := @setCellAlloc; go_enter Tryz.func10, Tryz.ntmps10
    go_wp2_with (first | (go_at_call 32; refine (l11Good_any _ _ _ _ L _ hr HN.out hm hcap).mono ?_; rw [HP.out]; rintro e w1 ⟨rfl, hb1⟩) | (go_at_call 35; refine (HA.out _ (RdI_below hr hb1)).mono ?_; rintro e w2 ⟨g, rfl, hg, hall, hb2⟩; have hx := HX.out _ _ hall; have hgs := hall.1; clear hall))
    go_ret2
    exact ⟨rfl, by (repeat (first | assumption | exact Below.refl _ _ | refine belowThen ?_ (Go.Joins.below_alloc1 _ _) | apply Below.drew | refine belowThen ?_ (by assumption) | refine belowThen ?_ (Go.Joins.below_draws _ _ _) | refine Below.setCell ?_ (by first | exact Nat.le_refl _ | (simp; done) | (simp; omega)) _))⟩
theorem enters_LongestPlay : Enters 37 := fun _ _ => by simp [go_sem, Tryz.func37]
theorem LongestPlayI_any (c : Int) (ao : Option Addr) (n cap : Nat) (L : List Int) (w : World) (hr : RdI w ao L) (hn : L.length = n) (hm : n ≤ maxLen) (hcap : n ≤ cap) :
    Calls Tryz.prog 9 #[.int .i64 c, .slice ao n cap] w fun e w' => e = .returned (.tuple #[.int .i64 (valOfI longF c L n), .bool (playB c L n)]) ∧ Below w.heap.size w w' := by
  have HV := Lib.hid (valueOfI_any longF 37 c ao n cap L w hr hn hm hcap enters_LongestPlay (fun c vs bo cb W _ hl hv _ => (LongestPlay1_any c bo vs.length cb vs W (RdI_of_V hv) rfl (by omega)).mono fun e w' h => ⟨h.1, by rw [← h.2]; exact Below.refl _ _⟩))
  generalize valOfI longF c L n = u at HV ⊢
  generalize playB c L n = p at HV ⊢
  clear hr hn
  go_enter Tryz.func9, Tryz.ntmps9
  go_wp2_with (first | (go_at_call 36; refine HV.out.mono ?_; rintro e w1 ⟨rfl, hb1⟩))
  go_ret2
  exact ⟨rfl, hb1⟩
set_option maxHeartbeats 800000 in
theorem ShortestPlayS_any (c : Int) (ao : Option Addr) (n cap : Nat) (L : List Int) (w : World) (hr : RdI w ao L) (hn : L.length = n) (hm : n ≤ maxLen) (hcap : n ≤ cap) :
    Calls Tryz.prog 12 #[.int .i64 c, .slice ao n cap] w fun e w' => e = .returned (.tuple #[.int .i64 (valOfI shortF c L n), .bool (playB c L n)]) ∧ Below w.heap.size w w' := by
  obtain ⟨p, hp⟩ : ∃ p, playB c L n = p := ⟨_, rfl⟩
  have HP := Lib.hid hp
  have hon := fun h => playB_on (L := L) (n := n) (c := c) (hp.trans h)
  unfold valOfI
  rw [hp]
  clear hp
  rcases p with _ | _
  · clear hon
    have hA1 := @cellAlloc; have hA2 := @frozenAlloc; have hA3 := @setCellAlloc; go_enter Tryz.func12, Tryz.ntmps12
    go_wp2_with (first | (go_at_call 32; refine (l11Good_any _ _ _ _ L _ hr hn hm hcap).mono ?_; rw [HP.out]; rintro e w1 ⟨rfl, hb1⟩))
    go_ret2
    exact ⟨rfl, hb1⟩
  · obtain ⟨hD, hc⟩ := hon rfl
    rw [inB_iff] at hc
    obtain ⟨C, rfl⟩ := Int.eq_ofNat_of_zero_le hc.1
    have hC : C < 128 := by omega
    rw [if_pos rfl, Int.toNat_natCast, ← known_short L C hC]
    have HA := Lib.hid (fun W h => l11All_any ao n cap L W h hn hm hD)
    have HX := Lib.hid (fun W g h => (AllOwn_at (w := W) (g := g) (L := L) h C hC).2.2.2.1)
    have HN := Lib.hid hn
    generalize (valC L knF C).short = u at HX ⊢
    clear hD hn hon hc
    have hA1 := @cellAlloc; have hA2 := @frozenAlloc; have hA3 := @setCellAlloc; go_enter Tryz.func12, Tryz.ntmps12
    go_wp2_with (first | (go_at_call 32; refine (l11Good_any _ _ _ _ L _ hr HN.out hm hcap).mono ?_; rw [HP.out]; rintro e w1 ⟨rfl, hb1⟩) | (go_at_call 35; refine (HA.out _ (RdI_below hr hb1)).mono ?_; rintro e w2 ⟨g, rfl, hg, hall, hb2⟩; have hx := HX.out _ _ hall; have hgs := hall.1; clear hall))
    go_ret2
    exact ⟨rfl, by (repeat (first | assumption | exact Below.refl _ _ | refine belowThen ?_ (Go.Joins.below_alloc1 _ _) | apply Below.drew | refine belowThen ?_ (by assumption) | refine belowThen ?_ (Go.Joins.below_draws _ _ _) | refine Below.setCell ?_ (by first | exact Nat.le_refl _ | (simp; done) | (simp; omega)) _))⟩
theorem enters_ShortestPlay : Enters 39 := fun _ _ => by simp [go_sem, Tryz.func39]
theorem ShortestPlayI_any (c : Int) (ao : Option Addr) (n cap : Nat) (L : List Int) (w : World) (hr : RdI w ao L) (hn : L.length = n) (hm : n ≤ maxLen) (hcap : n ≤ cap) :
    Calls Tryz.prog 11 #[.int .i64 c, .slice ao n cap] w fun e w' => e = .returned (.tuple #[.int .i64 (valOfI shortF c L n), .bool (playB c L n)]) ∧ Below w.heap.size w w' := by
  have HV := Lib.hid (valueOfI_any shortF 39 c ao n cap L w hr hn hm hcap enters_ShortestPlay (fun c vs bo cb W _ hl hv _ => (ShortestPlay1_any c bo vs.length cb vs W (RdI_of_V hv) rfl (by omega)).mono fun e w' h => ⟨h.1, by rw [← h.2]; exact Below.refl _ _⟩))
  generalize valOfI shortF c L n = u at HV ⊢
  generalize playB c L n = p at HV ⊢
  clear hr hn
  go_enter Tryz.func11, Tryz.ntmps11
  go_wp2_with (first | (go_at_call 36; refine HV.out.mono ?_; rintro e w1 ⟨rfl, hb1⟩))
  go_ret2
  exact ⟨rfl, hb1⟩
set_option maxHeartbeats 800000 in
theorem CountPlaysS_any (c : Int) (ao : Option Addr) (n cap : Nat) (L : List Int) (w : World) (hr : RdI w ao L) (hn : L.length = n) (hm : n ≤ maxLen) (hcap : n ≤ cap) :
    Calls Tryz.prog 14 #[.int .i64 c, .slice ao n cap] w fun e w' => e = .returned (.tuple #[.int .i64 (valOfI playsF c L n), .bool (playB c L n)]) ∧ Below w.heap.size w w' := by
  obtain ⟨p, hp⟩ : ∃ p, playB c L n = p := ⟨_, rfl⟩
  have HP := Lib.hid hp
  have hon := fun h => playB_on (L := L) (n := n) (c := c) (hp.trans h)
  unfold valOfI
  rw [hp]
  clear hp
  rcases p with _ | _
  · clear hon
    have hA1 := @cellAlloc; have hA2 := @frozenAlloc; have hA3 := @setCellAlloc; go_enter Tryz.func14, Tryz.ntmps14
    go_wp2_with (first | (go_at_call 32; refine (l11Good_any _ _ _ _ L _ hr hn hm hcap).mono ?_; rw [HP.out]; rintro e w1 ⟨rfl, hb1⟩))
    go_ret2
    exact ⟨rfl, hb1⟩
  · obtain ⟨hD, hc⟩ := hon rfl
    rw [inB_iff] at hc
    obtain ⟨C, rfl⟩ := Int.eq_ofNat_of_zero_le hc.1
    have hC : C < 128 := by omega
    rw [if_pos rfl, Int.toNat_natCast, ← known_plays L C hC]
    have HA := Lib.hid (fun W h => l11All_any ao n cap L W h hn hm hD)
    have HX := Lib.hid (fun W g h => (AllOwn_at (w := W) (g := g) (L := L) h C hC).2.2.2.2)
    have HN := Lib.hid hn
    generalize (valC L knF C).plays = u at HX ⊢
    clear hD hn hon hc
    have hA1 := @cellAlloc; have hA2 := @frozenAlloc; have hA3 := @setCellAlloc; go_enter Tryz.func14, Tryz.ntmps14
    go_wp2_with (first | (go_at_call 32; refine (l11Good_any _ _ _ _ L _ hr HN.out hm hcap).mono ?_; rw [HP.out]; rintro e w1 ⟨rfl, hb1⟩) | (go_at_call 35; refine (HA.out _ (RdI_below hr hb1)).mono ?_; rintro e w2 ⟨g, rfl, hg, hall, hb2⟩; have hx := HX.out _ _ hall; have hgs := hall.1; clear hall))
    go_ret2
    exact ⟨rfl, by (repeat (first | assumption | exact Below.refl _ _ | refine belowThen ?_ (Go.Joins.below_alloc1 _ _) | apply Below.drew | refine belowThen ?_ (by assumption) | refine belowThen ?_ (Go.Joins.below_draws _ _ _) | refine Below.setCell ?_ (by first | exact Nat.le_refl _ | (simp; done) | (simp; omega)) _))⟩
theorem enters_CountPlays : Enters 41 := fun _ _ => by simp [go_sem, Tryz.func41]
theorem CountPlaysI_any (c : Int) (ao : Option Addr) (n cap : Nat) (L : List Int) (w : World) (hr : RdI w ao L) (hn : L.length = n) (hm : n ≤ maxLen) (hcap : n ≤ cap) :
    Calls Tryz.prog 13 #[.int .i64 c, .slice ao n cap] w fun e w' => e = .returned (.tuple #[.int .i64 (valOfI playsF c L n), .bool (playB c L n)]) ∧ Below w.heap.size w w' := by
  have HV := Lib.hid (valueOfI_any playsF 41 c ao n cap L w hr hn hm hcap enters_CountPlays (fun c vs bo cb W _ hl hv _ => (CountPlays1_any c bo vs.length cb vs W (RdI_of_V hv) rfl (by omega)).mono fun e w' h => ⟨h.1, by rw [← h.2]; exact Below.refl _ _⟩))
  generalize valOfI playsF c L n = u at HV ⊢
  generalize playB c L n = p at HV ⊢
  clear hr hn
  go_enter Tryz.func13, Tryz.ntmps13
  go_wp2_with (first | (go_at_call 36; refine HV.out.mono ?_; rintro e w1 ⟨rfl, hb1⟩))
  go_ret2
  exact ⟨rfl, hb1⟩
end Go.Proofs.YtcddfpbohejhhaaGreat
