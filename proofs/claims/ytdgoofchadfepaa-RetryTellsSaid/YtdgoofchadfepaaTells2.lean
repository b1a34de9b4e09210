/-
  RetryTells at every argument.
-/
import Derived.Test.YtdgoofchadfepaaTells
import Derived.Test.YtdgoofchadfepaaHolds3
namespace Go.Proofs.Ytdgoofchadfepaa
open Go.RowKit Go.Shelf Go.WideShapes

theorem tells_all (v : Value) (a n2 : Int) (hv : ∃ P : Po, v = P.v) (h2 : (Lit.int .u32 n2).wf = true) (w : World) : Calls Try.prog 4 #[v, .int .i64 a, .int .u32 n2] w fun e w' => e = .returned (.bool true) ∧ Below w.heap.size w w' := by
  obtain ⟨p, rfl⟩ := hv
  obtain ⟨d, rfl, hd⟩ := u32_of n2 h2
  exact tells_any p a d hd w
end Go.Proofs.Ytdgoofchadfepaa
