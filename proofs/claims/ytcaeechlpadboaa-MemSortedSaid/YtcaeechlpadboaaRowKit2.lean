/-
  A list of pairs among the arguments, opened.
-/
import Derived.Test.YtcaeechlpadboaaRowKit
import Derived.Test.YtcaeechlpadboaaRef
namespace Go.Proofs.Ytcaeechlpadboaa
open Go.ChangeShapes Go.WideShapes Go.ChangeAt Go.RowKit

theorem cells25 : Try.prog.cellsOf 25 = 2 := by kernel_rfl
set_option maxRecDepth 100000 in
theorem pr_of {H : Type} {enc : TypeId × Value → H} {w : World} (n : Nat) (cs : List Value) (y : DataW H × List MemPlace) (h : DataW.trod enc Try.prog w 0 (fun _ => true) true n 25 cs = some y) : ∃ x : Pr, cs = prc x ∧ x.1.size ≤ maxLen ∧ x.2.size ≤ maxLen := by
  obtain ⟨ys, m, _, _, hlen, hyl, hf⟩ := DataW.trod_struct Try.underlying25 h
  rw [cells25] at hlen
  match cs, hlen, ys, hyl with
  | [a0, a1], _, [y0, y1], _ =>
    have f0 := hf 0 _ rfl
    have f1 := hf 1 _ rfl
    simp [cells9] at f0 f1
    obtain ⟨s0, e0, _, w0⟩ := DataW.trod_string Try.underlying9 f0
    obtain ⟨s1, e1, _, w1⟩ := DataW.trod_string Try.underlying9 f1
    simp at e0 e1
    subst e0 e1
    exact ⟨(s0, s1), rfl, w0, w1⟩
end Go.Proofs.Ytcaeechlpadboaa
