/-
  Arguments that came in: lists of texts, of pairs of texts.
-/
import Derived.Test.YtcaeechlpadboaaTbl
namespace Go.Proofs.Ytcaeechlpadboaa
open Go Go.RowKit Go.WideShapes

theorem cells9 : Try.prog.cellsOf 9 = 1 := by kernel_rfl
theorem txt_of {H : Type} {enc : TypeId × Value → H} {w : World} (n : Nat) (cs : List Value) (y : DataW H × List MemPlace) (h : DataW.trod enc Try.prog w 0 (fun _ => true) true n 9 cs = some y) : ∃ x : ByteArray, cs = sc x ∧ x.size ≤ maxLen := by
  obtain ⟨s, e, _, hs⟩ := DataW.trod_string Try.underlying9 h
  exact ⟨s, e, hs⟩
end Go.Proofs.Ytcaeechlpadboaa
