/-
  Arguments that came in: bytes.
-/
import Derived.Test.YtcaeechlpadboaaRowKit
import Derived.Test.YtcaeechlpadboaaVals
namespace Go.Proofs.Ytcaeechlpadboaa
open Go Go.RowKit Go.WideShapes

theorem cells5 : Try.prog.cellsOf 5 = 1 := by kernel_rfl
theorem byte_of {H : Type} {enc : TypeId × Value → H} {w : World} (n : Nat) (cs : List Value) (y : DataW H × List MemPlace) (h : DataW.trod enc Try.prog w 0 (fun _ => true) true n 5 cs = some y) : ∃ x : Int, cs = bc x ∧ True := by
  obtain ⟨a, e, _, _⟩ := DataW.trod_int Try.underlying5 h
  exact ⟨a, e, trivial⟩
end Go.Proofs.Ytcaeechlpadboaa
