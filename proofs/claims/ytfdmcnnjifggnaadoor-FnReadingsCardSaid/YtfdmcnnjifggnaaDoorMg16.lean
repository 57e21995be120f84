/- Joined texts: AppS. -/
import Derived.Test.YtfdmcnnjifggnaaDoorMg05
import Derived.Deep.AppendLies
import Derived.Deep.RegionLaw
import Derived.ArgAppend
namespace Go.Proofs.YtfdmcnnjifggnaaDoor
open Go.RowKit

theorem runAppendV (w : World) (ty ts e : TypeId) (z : Value) (bytes : Nat) (hts : Tryd.prog.underlying ts = some (.slice e)) (hin : (Tryd.prog.info? e).map (fun i => (i.zero, i.size, i.bytes)) = some (some z, 1, bytes)) (hzs : z.cells.size = 1) (hby : bytes ≤ 100)
    (B : Nat) (v : Value) (vs : List Value) (hown : ownsV w B e v vs) (ad : Addr) (u : Value) (hc : w.cell? (ad.add 0) = some u) (hu : u.oneCell' = true) (hn : vs.length ≤ 1000000000) (hB : B ≤ w.heap.size) :
    ∃ ao cap w', (Builtin.append_ #[ts, ts] ty #[v, .slice (some ad) 1 1]).run Tryd.prog w = .ok (.slice ao (vs.length + 1) cap) w' ∧ ownsV w' B e (.slice ao (vs.length + 1) cap) (vs ++ [u]) ∧ Below B w w' := by
  obtain ⟨i0, hi, hz0, hz1, hz2⟩ := info_parts hin
  have hcell : ∀ j u2, ([u] : List Value)[j]? = some u2 → w.cell? (ad.add j) = some u2 := fun j u2 hj => by
    have h0 : j = 0 := by have := (List.getElem?_eq_some_iff.1 hj).1; simpa using this
    subst h0
    simp at hj
    rw [hc, hj]
  have hb1 : (vs.length + 1) * bytes ≤ 140737488355328 := by
    have : (vs.length + 1) * bytes ≤ (vs.length + 1) * 100 := Nat.mul_le_mul_left _ hby
    omega
  rcases hown with hown | ⟨h0, h1, a0, rfl⟩
  · obtain ⟨g, cap, w', hr, h2, h3, h4, h5⟩ := run_append_lies w ts ty B e i0 z 1 bytes hts hi hz0 hz1 hz2 hzs (by decide) v vs.length vs hown ad 1 1 [u] rfl hcell (by simpa using hu) (by decide) (by unfold maxLen; omega) hb1 hB _ rfl
    exact ⟨_, cap, w', hr, .inl (by simpa using h2), (Below.refl B w).grown h3 hB (fun k hk => (World.ownsRow.lt hown k hk).1)⟩
  · subst h1
    obtain ⟨v', w', hr, r1, r2⟩ := run_append_arg_grows (P := Tryd.prog) w ts ty e i0 z 1 bytes hts hi hz0 hz1 hz2 hzs (by decide) a0 0 0 [] rfl (by intro j u2 h; simp at h) ad 1 1 [u] rfl hcell (by decide) (by decide) (by simpa using hb1)
    rcases r1.2 with ⟨_, h9⟩ | ⟨g, cap, cur, rfl, hBg, h9⟩
    · omega
    · exact ⟨_, cap, w', hr, .inl ⟨r1.1, .inr ⟨g, cap, cur, rfl, by omega, h9⟩⟩, (Below.refl B w).grown r2 hB (fun k hk => by cases hk)⟩
theorem stepAppendV {ops : Array Oper} {o : Oper} {a : Act} {w : World} {K' : Act → World → Prop} {Q : Exit → Act → World → Prop} {E : Prop} (hgd : o.guard = none) (s x : Operand) (ts e : TypeId) (z : Value) (bytes : Nat)
    (ho : o.op = .call { callee := .builtin .append, args := #[s, x], argTypes := #[ts, ts] }) (hts : Tryd.prog.underlying ts = some (.slice e)) (hin : (Tryd.prog.info? e).map (fun i => (i.zero, i.size, i.bytes)) = some (some z, 1, bytes)) (hzs : z.cells.size = 1) (hby : bytes ≤ 100)
    (B : Nat) (v : Value) (vs : List Value) (hs : a.eval s = v) (hown : ownsV w B e v vs) (ad : Addr) (hx : a.eval x = .slice (some ad) 1 1) (u : Value) (hc : w.cell? (ad.add 0) = some u) (hu : u.oneCell' = true) (hn : vs.length ≤ 1000000000) (hB : B ≤ w.heap.size)
    (h : ∀ ao cap w', ownsV w' B e (.slice ao (vs.length + 1) cap) (vs ++ [u]) → Below B w w' → K' (a.put o.dst (.slice ao (vs.length + 1) cap)) w') :
    if Region.wanted o (yielded ops a.tmps) = true then Oper.wp Tryd.prog o a w K' Q else E := by
  have hw : Region.wanted o (yielded ops a.tmps) = true := by simp [Region.wanted, hgd]
  rw [if_pos hw]
  obtain ⟨ao, cap, w', hr, h2, h3⟩ := runAppendV w o.type ts e z bytes hts hin hzs hby B v vs hown ad u hc hu hn hB
  unfold Oper.wp execOp
  simp only [ho, resolve, invoke, builtin, Sem.run_bind, Sem.run_pure, Result.andThen_ok, List.map_toArray, List.map_cons, List.map_nil, hs, hx, hr]
  exact h ao cap w' h2 h3
end Go.Proofs.YtfdmcnnjifggnaaDoor
