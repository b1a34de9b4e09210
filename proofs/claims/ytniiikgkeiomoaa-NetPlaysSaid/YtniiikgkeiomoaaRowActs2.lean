/-
  An argument that is a list of acts, opened; its numbers are numbers.
-/
import Derived.Test.YtniiikgkeiomoaaRowActs
namespace Go.Proofs.Ytniiikgkeiomoaa
open Go.ChangeShapes Go.WideShapes Go.ChangeAt Go.RowKit

theorem ac_of2 {H : Type} {enc : TypeId × Value → H} {w : World} (n : Nat) (cs : List Value) (y : DataW H × List MemPlace) (h : DataW.trod enc Try.prog w 0 (fun _ => true) true n 40 cs = some y) : ∃ x, cs = acCells x ∧ x.ok ∧ (Lit.int .i64 x.i).wf = true := by
  obtain ⟨ys, m, _, _, hlen, hyl, hf⟩ := DataW.trod_struct Try.underlying40 h
  rw [cells40] at hlen
  match cs, hlen, ys, hyl with
  | [a0, a1, a2, a3, a4, a5], _, [y0, y1, y2, y3], _ =>
    have f0 := hf 0 _ rfl
    have f1 := hf 1 _ rfl
    have f2 := hf 2 _ rfl
    have f3 := hf 3 _ rfl
    simp [cells3, cells25, cells4] at f0 f1 f2 f3
    obtain ⟨n0, e0, _, _⟩ := DataW.trod_int Try.underlying3 f0
    obtain ⟨p, e1, hp⟩ := pk_of _ _ _ f1
    obtain ⟨n2, e2, _, w2⟩ := DataW.trod_int Try.underlying3 f2
    obtain ⟨b3, e3, _⟩ := DataW.trod_bool Try.underlying4 f3
    simp [pkCells] at e0 e1 e2 e3
    obtain ⟨rfl, rfl, rfl⟩ := e1
    subst e0 e2 e3
    exact ⟨⟨n0, p, n2, b3⟩, rfl, hp, w2⟩
end Go.Proofs.Ytniiikgkeiomoaa
