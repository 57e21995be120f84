/- The contract of the function that looks a value up. -/
import Derived.Test.YtpcmlfohblglaabTabI
import Derived.Lib.Hide
namespace Go.Proofs.Ytpcmlfohblglaab
open Go.RowKit

/-- What is looked up. -/
def valOfI (F : Nat → List Int → Int) (c : Int) (L : List Int) (n : Nat) : Int := if playB c L n = true then valC L F c.toNat else 0
set_option maxHeartbeats 800000 in
theorem valueOfI_any (F : Nat → List Int → Int) (K : Nat) (c : Int) (ao : Option Addr) (n cap : Nat) (L : List Int) (w : World) (hr : RdI w ao L) (hn : L.length = n) (hm : n ≤ maxLen) (hcap : n ≤ cap) (hK : Enters K)
    (hF : ∀ (c : Nat) (vs : List Int) (bo : Option Addr) (cb : Nat) (W : World), c < 128 → vs.length ≤ 7 → RdV W bo (vs.map (Value.int .i64)) → Below w.heap.size w W → Calls Try.prog K #[.int .i64 c, .slice bo vs.length cb] W fun e w' => e = .returned (Value.int .i64 (F c vs)) ∧ Below W.heap.size W w') :
    Calls Try.prog 36 #[.int .i64 c, .slice ao n cap, .func (.func K) #[] #[]] w fun e w' => e = .returned (.tuple #[Value.int .i64 (valOfI F c L n), .bool (playB c L n)]) ∧ Below w.heap.size w w' := by
  unfold valOfI
  generalize hp : playB c L n = p
  have HP := Lib.hid hp
  have hon := fun h => playB_on (L := L) (n := n) (c := c) (hp.trans h)
  have hway : p = true → wayB c L = true := by intro h; rw [← hp] at h; unfold playB at h; rw [Bool.and_eq_true] at h; exact h.2
  clear hp
  have HF := Lib.hid hF
  clear hF
  rcases p with _ | _
  · clear hway hon
    have hA1 := @cellAlloc; have hA2 := @frozenAlloc; have hA3 := @setCellAlloc; go_enter Try.func36, Try.ntmps36
    go_wp2_with (first | (go_at_call 38; refine (isPlayable_any _ _ _ _ L _ hr hn hm hcap).mono ?_; rw [HP.out]; rintro e w1 ⟨rfl, hb1⟩))
    go_ret2
    exact ⟨rfl, hb1⟩
  · obtain ⟨hD, hc⟩ := hon rfl
    have hw := hway rfl
    rw [inB_iff] at hc
    obtain ⟨C, rfl⟩ := Int.eq_ofNat_of_zero_le hc.1
    have hC : C < 128 := by omega
    rw [if_pos rfl, Int.toNat_natCast]
    have HD := Lib.hid hD
    have HN := Lib.hid hn
    clear hD hc hon hn hway
    have hfx : (if 0 ≤ (C : Int) ∧ (C : Int) < 128 ∧ wayB (C : Int) L = true then Value.int .i64 (valC L F (C : Int).toNat) else (.int .i64 0)) = Value.int .i64 (valC L F C) := by
      rw [if_pos ⟨by omega, by omega, hw⟩]; rfl
    generalize valC L F C = u at hfx
    have HX := Lib.hid hfx
    have HK := Lib.hid hK
    clear hfx hw hK
    have hA1 := @cellAlloc; have hA2 := @frozenAlloc; have hA3 := @setCellAlloc; go_enter Try.func36, Try.ntmps36
    go_wp2_with (first | (go_at_call 38; refine (isPlayable_any _ _ _ _ L _ hr HN.out hm hcap).mono ?_; rw [HP.out]; rintro e w1 ⟨rfl, hb1⟩) | (go_at_call 28; refine (tableI_any F K _ _ _ L _ (RdI_below hr hb1) HN.out hm HD.out HK.out (fun c vs bo cb W h1 h2 h3 h4 => HF.out c vs bo cb W h1 h2 h3 (belowThen hb1 h4))).mono ?_; rintro e w2 ⟨rfl, hmap, hb2⟩) | (at_lookup; refine wpLookVI _ (by rfl) _ _ _ (by rfl) _ (Try.underlying53) _ (by rfl) w1.heap.size _ _ (by rfl) hmap (C : Int) (by rfl) (wf128 C hC) (Value.int .i64 u) HX.out ?_))
    go_ret2
    exact ⟨rfl, belowThen hb1 hb2⟩
end Go.Proofs.Ytpcmlfohblglaab
