/- The draw of a row that is mostly a word's. -/
import Derived.Test.YtfdmcnnjifggnabGreatDoorDrawB
import Derived.Test.YtfdmcnnjifggnabGreatDoorShort
import Derived.Lib.Hide
namespace Go.Proofs.YtfdmcnnjifggnabGreatDoor
open Go.RowKit

set_option maxHeartbeats 1600000 in
theorem DrawWordOfRow_any (ao : Option Addr) (n cap : Nat) (w : World) (h : RdY w ao n) : Calls Tryz.prog 9 #[.slice ao n cap] w fun e w' => RetOwn 30 w e w' ∧ Below w.heap.size w w' := by
  have hc0 := Cur_new w ao n cap 44 h
  go_enter Tryz.func9, Tryz.ntmps9
  go_wp2_with (go_at_call 34; refine (wordOfO _ hc0 (by omega)).mono ?_; rintro e w1 ⟨⟨s, hs, rfl⟩, hc1⟩)
  have hs2 := hc1.2.size
  have HW := Lib.hid (fun W => l10Word_any s 6 (by decide) (by unfold maxLen; omega) W)
  have hall := wordB_all (s := s) (m := 6)
  generalize wordB s 6 = q6 at HW hall
  rcases q6 with _ | _
  · clear hall
    go_wp2_with (first
      | (go_at_call 37; refine (HW.out _).mono ?_; rintro e w' ⟨rfl, rfl⟩)
      | (go_at_call 40; refine (rowDO hc1 (by omega)).mono ?_; rintro e w3 ⟨⟨a3, c3, L3, rfl, hL3, ho3⟩, hc3⟩))
    go_ret
    exact ⟨⟨a3, c3, L3, rfl, by omega, ownsInts_le ho3 hs2⟩, CurO.new hc3⟩
  · have hall2 := (hall rfl).1
    clear hall
    have HR := Lib.hid (fun W => l10Row_any s (by omega) hall2 W)
    have HLen := Lib.hid (rowW_length s)
    go_wp2_with (first
      | (go_at_call 37; refine (HW.out _).mono ?_; rintro e w' ⟨rfl, rfl⟩)
      | (go_at_call 39; refine (oneO _ hc1 (by omega)).mono ?_; rintro e w2 ⟨⟨q, rfl⟩, hc2⟩; have hs3 := hc2.2.size)
      | (go_at_call 40; refine (rowDO hc2 (by omega)).mono ?_; rintro e w3 ⟨⟨a3, c3, L3, rfl, hL3, ho3⟩, hc3⟩)
      | (go_at_call 38; refine (HR.out _).mono ?_; rintro e w4 ⟨a4, c4, rfl, ho4, hb4⟩))
    all_goals go_ret
    all_goals first
      | exact ⟨⟨a4, c4, rowW s, rfl, by have := HLen.out; omega, ownsInts_le ho4 hs3⟩, CurO.new (hc2.then hb4)⟩
      | exact ⟨⟨a3, c3, L3, rfl, by omega, ownsInts_le ho3 hs3⟩, CurO.new hc3⟩
end Go.Proofs.YtfdmcnnjifggnabGreatDoor
