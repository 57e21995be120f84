/- Joined texts: ReadI. -/
import Derived.Test.YtfdmcnnjifggnaaDoorMg09
import Derived.Lib.Hide
import Derived.Deep.RegionHeld3
import Derived.Deep.RegionWith
namespace Go.Proofs.YtfdmcnnjifggnaaDoor
open Go.RowKit

set_option maxHeartbeats 6400000 in
theorem ReadingAtI_any (ao : Option Addr) (n cap : Nat) (L : List Int) (k : Int) (w : World) (hr : RdI w ao L) (hn : L.length = n) (hm : n ≤ maxLen) (hcap : n ≤ cap) :
    Calls Tryd.prog 10 #[.slice ao n cap, .int .i64 k] w fun e w' => e = .returned (.tuple #[.string (raS L k), .bool (raB L k)]) ∧ Below w.heap.size w w' := by
  obtain ⟨ok, hok⟩ : ∃ ok, raB L k = ok := ⟨_, rfl⟩
  unfold raS
  rw [hok]
  unfold raB at hok
  have HR := Lib.hid (IsRow_any ao n cap L w hr hn hm)
  have hlen := rowB_len (L := L)
  rw [hn] at hlen
  have HC := fun h6 => Lib.hid (fun W h => countReadings_any ao n cap L W h hn h6)
  have hple := prodL_le L
  have HN := Lib.hid hn
  generalize rowB L = q at HR hlen hok
  rcases q with _ | _
  · rw [Bool.false_and] at hok
    subst hok
    clear HC hlen hr hn hple
    go_enter Tryd.func10, Tryd.ntmps10
    go_wp2_with (first | (go_at_call 8; refine HR.out.mono ?_; rintro e w1 ⟨rfl, hb1⟩))
    go_ret2
    exact ⟨rfl, hb1⟩
  · have HC := HC (hlen rfl)
    have hn6 := hlen rfl
    rw [Bool.true_and] at hok
    have hp16 := pow16 L.length (by omega)
    have hpb : prodL L ≤ 16777216 := Nat.le_trans hple hp16
    have HOk := Lib.hid hok
    rcases ok with _ | _
    · clear hlen hn hple hp16 hok
      rw [if_neg (by decide)]
      generalize prodL L = P0 at *
      go_enter Tryd.func10, Tryd.ntmps10
      go_wp2_with (first | (go_at_call 8; refine HR.out.mono ?_; rintro e w1 ⟨rfl, hb1⟩) | (go_at_call 28; refine (HC.out _ (RdI_below hr hb1)).mono ?_; rintro e w2 ⟨rfl, hb2⟩) | (go_at_call 34; refine (within_any _ _ _ _).mono ?_; rw [HOk.out]; rintro e w' ⟨rfl, rfl⟩))
      go_ret2
      exact ⟨rfl, belowThen hb1 hb2⟩
    · rw [if_pos rfl]
      have hk := hok
      rw [inB_iff] at hk
      obtain ⟨K, rfl⟩ := Int.eq_ofNat_of_zero_le hk.1
      have hK : K < prodL L := by omega
      rw [Int.toNat_natCast]
      have HK := Lib.hid hK
      obtain ⟨P0, hP0⟩ : ∃ P0, prodL L = P0 := ⟨_, rfl⟩
      rw [hP0] at HC HOk hpb hk
      clear hlen hn hple hp16 hok hK hP0
      go_enter Tryd.func10, Tryd.ntmps10
      go_wp2_with (first | (go_at_call 8; refine HR.out.mono ?_; rintro e w1 ⟨rfl, hb1⟩) | (go_at_call 28; refine (HC.out _ (RdI_below hr hb1)).mono ?_; rintro e w2 ⟨rfl, hb2⟩) | (go_at_call 34; refine (within_any _ _ _ _).mono ?_; rw [HOk.out]; rintro e w' ⟨rfl, rfl⟩))
      have hbw0 := belowThen hb1 hb2
      go_loopw [1, 6, 23] (fun kk s i wr => ∃ j : Nat, j ≤ n ∧ i = .int .i64 j ∧ kk = .int .i64 (rdK L K j) ∧ s = .string (rdS L K j) ∧ Below w.heap.size w wr) (fun _ _ i _ => n - (intOf i).toNat)
      case atStart => exact ⟨0, by omega, rfl, rfl, rfl, hbw0⟩
      case round =>
        obtain ⟨i, hi, rfl, rfl, rfl, hbw⟩ := hrel
        clear hbw0
        have hsz := rdS_size L K i
        by_cases hlt : i < n
        · have hrr := RdI_below hr hbw
          rcases hrr with h | ⟨b1, o1, rfl, hb1', hc1⟩
          · have := HN.out; rw [h] at this; simp at this; omega
          have hx := hc1 i (by rw [HN.out]; omega)
          obtain ⟨hp0, hjn⟩ := rd_facts L K HK.out i (by rw [HN.out]; omega)
          have hat := readP_at (L.getD i 0) _ hjn
          have hrs := readP_size (L.getD i 0) 16 (Nat.le_refl _)
          have hsS : rdS L K (i + 1) = rdS L K i ++ alphaB.extract (rdJ L K i) (rdJ L K i + 1) := rfl
          have hsK : rdK L K (i + 1) = rdK L K i % prodL (L.drop (i + 1)) := rfl
          have hJ : rdJ L K i = (canP (L.getD i 0) 16).getD (rdK L K i / prodL (L.drop (i + 1))) 0 := rfl
          rw [← hJ] at hat
          rw [← hat] at hsS
          have hkb : rdK L K i < 16777216 := by
            have h1 := rdK_lt L K HK.out i (by rw [HN.out]; omega)
            have h2 := prodL_le (L.drop i)
            have h3 := pow16 (L.drop i).length (by rw [List.length_drop, HN.out]; omega)
            omega
          have hpb2 : prodL (L.drop (i + 1)) ≤ 16777216 := by
            have h2 := prodL_le (L.drop (i + 1))
            have h3 := pow16 (L.drop (i + 1)).length (by rw [List.length_drop, HN.out]; omega)
            omega
          have HRd := Lib.hid (fun W => readings_any (L.getD i 0) W)
          have hdl : (L.drop (i + 1)).length = n - (i + 1) := by rw [List.length_drop, HN.out]
          have HCnt := Lib.hid (fun ao' cap' W h => countReadings_any ao' (n - (i + 1)) cap' (L.drop (i + 1)) W h hdl (by omega))
          have hdrop := RdI_drop (RdI_below hr hbw) (i + 1)
          have hl16 := canN_le (L.getD i 0)
          unfold canN at hjn hl16
          rw [← hrs] at hjn hl16
          clear hJ hat hrs
          generalize prodL (L.drop (i + 1)) = b at *
          generalize rdS L K i = S at *
          generalize rdK L K i = kk at *
          have hq : wrap64 ((kk : Int) / (b : Int)) = ((kk / b : Nat) : Int) := by
            rw [Int.natCast_ediv, IntWalk.wrap64_in _ ⟨?_, ?_⟩]
            · have := Int.ediv_nonneg (a := (kk : Int)) (b := (b : Int)) (by omega) (by omega); omega
            · have := Int.ediv_le_self (a := (kk : Int)) (b : Int) (by omega); omega
          have hwq : IntKind.i64.wrap ((kk : Int) / (b : Int)) = ((kk / b : Nat) : Int) := by
            have h3 : kk / b ≤ kk := Nat.div_le_self _ _
            have h4 : ((kk / b : Nat) : Int) ≤ (kk : Int) := Int.ofNat_le.2 h3
            have h5 : (0 : Int) ≤ ((kk / b : Nat) : Int) := Int.natCast_nonneg _
            have h6 : (kk : Int) < 16777216 := by omega
            rw [← Int.natCast_ediv]
            generalize ((kk / b : Nat) : Int) = zq at h4 h5 ⊢
            exact IntWalk.i64_in _ (by omega)
          have HWQ := Lib.hid hwq
          clear hwq
          generalize kk / b = jj at *
          generalize L.getD i 0 = y at *
          generalize readP y 16 = rs at *
          have HS := Lib.hid hsS
          have HKS := Lib.hid hsK
          clear hsS hsK hc1 hdl hr
          by_cases hce : cap = i + 1
          · have hin1 : n = i + 1 := by omega
            have hdn : L.drop (i + 1) = [] := List.drop_eq_nil_of_le (by rw [HN.out]; omega)
            have h0 : n - (i + 1) = 0 := by omega
            rw [h0, hdn] at HCnt
            have HCnt2 := Lib.hid (fun ao' cap' W => HCnt.out ao' cap' W (.inl rfl))
            clear hdrop hdn HCnt hin1
            subst hce
            go_wp2_with (first | (go_at_call 28; refine (HCnt2.out _ _ _).mono ?_; rintro e w3 ⟨rfl, hb3⟩))
            have hwq := HWQ.out
            have hw1 : IntKind.i64.wrap ((jj : Int) + 1) = (jj : Int) + 1 := IntWalk.i64_in _ (by omega)
            have hw2 : (0 : Int) ≤ (jj : Int) + 1 := by omega
            have hw3 : ((jj : Int) + 1).toNat = jj + 1 := by omega
            have hs1 : ((jj : Int) + 1) ≤ (rs.size : Int) := by omega
            have hs2 : jj + 1 ≤ rs.size := by omega
            have hs3 : (0 : Int) ≤ (jj : Int) := by omega
            have hs4 : (jj : Int) ≤ (jj : Int) + 1 := by omega
            have hs5 : jj ≤ jj + 1 := by omega
            have hs6 : rs.size ≤ 16 := by omega
            go_region_with (first | (go_at_call 35; refine (HRd.out _).mono ?_; rintro e w4 ⟨rfl, hb4⟩))
            all_goals
              clear hw1 hw2 hw3 hwq hs1 hs2 hs3 hs4 hs5 hs6
              go_wp2
              go_roundw
              case rel => exact ⟨i + 1, by omega, by go_num, by first | (rw [HKS.out]; done) | (rw [HKS.out]; rfl), by first | (rw [HS.out]; done) | (rw [HS.out]; rfl), by (repeat (first | assumption | exact Below.refl _ _ | refine belowThen ?_ (Go.Joins.below_alloc1 _ _) | apply Below.drew | refine belowThen ?_ (by assumption) | refine belowThen ?_ (Go.Joins.below_draws _ _ _) | refine Below.setCell ?_ (by first | exact Nat.le_refl _ | (simp; done) | (simp; omega)) _))⟩
              case measure => first | (simp [intOf]; done) | (simp [intOf]; omega)
          · go_wp2_with (first | (go_at_call 28; refine (HCnt.out _ _ _ hdrop).mono ?_; rintro e w3 ⟨rfl, hb3⟩))
            have hwq := HWQ.out
            have hw1 : IntKind.i64.wrap ((jj : Int) + 1) = (jj : Int) + 1 := IntWalk.i64_in _ (by omega)
            have hw2 : (0 : Int) ≤ (jj : Int) + 1 := by omega
            have hw3 : ((jj : Int) + 1).toNat = jj + 1 := by omega
            have hs1 : ((jj : Int) + 1) ≤ (rs.size : Int) := by omega
            have hs2 : jj + 1 ≤ rs.size := by omega
            have hs3 : (0 : Int) ≤ (jj : Int) := by omega
            have hs4 : (jj : Int) ≤ (jj : Int) + 1 := by omega
            have hs5 : jj ≤ jj + 1 := by omega
            have hs6 : rs.size ≤ 16 := by omega
            go_region_with (first | (go_at_call 35; refine (HRd.out _).mono ?_; rintro e w4 ⟨rfl, hb4⟩))
            all_goals
              clear hw1 hw2 hw3 hwq hs1 hs2 hs3 hs4 hs5 hs6
              go_wp2
              go_roundw
              case rel => exact ⟨i + 1, by omega, by go_num, by first | (rw [HKS.out]; done) | (rw [HKS.out]; rfl), by first | (rw [HS.out]; done) | (rw [HS.out]; rfl), by (repeat (first | assumption | exact Below.refl _ _ | refine belowThen ?_ (Go.Joins.below_alloc1 _ _) | apply Below.drew | refine belowThen ?_ (by assumption) | refine belowThen ?_ (Go.Joins.below_draws _ _ _) | refine Below.setCell ?_ (by first | exact Nat.le_refl _ | (simp; done) | (simp; omega)) _))⟩
              case measure => first | (simp [intOf]; done) | (simp [intOf]; omega)
        · have hin : i = n := by omega
          subst hin
          have hN : rdS L K L.length = rdS L K i := by rw [HN.out]
          have HNS := Lib.hid hN
          clear hN
          go_wp2
          go_ret2
          exact ⟨by rw [HNS.out]; rfl, hbw⟩
end Go.Proofs.YtfdmcnnjifggnaaDoor
