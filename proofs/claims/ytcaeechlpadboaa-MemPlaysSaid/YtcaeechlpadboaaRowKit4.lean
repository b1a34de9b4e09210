/-
  Arguments that came in: acts.
-/
import Derived.Test.YtcaeechlpadboaaRowKit
import Derived.Test.YtcaeechlpadboaaMt
namespace Go.Proofs.Ytcaeechlpadboaa
open Go Go.RowKit Go.WideShapes

instance : Inhabited ActM := ⟨⟨0, k0, k0, 0⟩⟩
theorem cells3 : Try.prog.cellsOf 3 = 1 := by kernel_rfl
theorem cells71 : Try.prog.cellsOf 71 = 4 := by kernel_rfl
set_option maxRecDepth 100000 in
theorem act_of {H : Type} {enc : TypeId × Value → H} {w : World} (n : Nat) (cs : List Value) (y : DataW H × List MemPlace) (h : DataW.trod enc Try.prog w 0 (fun _ => true) true n 71 cs = some y) : ∃ x : ActM, cs = ac x ∧ True := by
  obtain ⟨ys, m, _, _, hlen, hyl, hf⟩ := DataW.trod_struct Try.underlying71 h
  rw [cells71] at hlen
  match cs, hlen, ys, hyl with
  | [a0, a1, a2, a3], _, [y0, y1, y2, y3], _ =>
    have f0 := hf 0 _ rfl
    have f1 := hf 1 _ rfl
    have f2 := hf 2 _ rfl
    have f3 := hf 3 _ rfl
    simp [cells3, cells9] at f0 f1 f2 f3
    obtain ⟨n0, e0, _, _⟩ := DataW.trod_int Try.underlying3 f0
    obtain ⟨s1, e1, _, _⟩ := DataW.trod_string Try.underlying9 f1
    obtain ⟨s2, e2, _, _⟩ := DataW.trod_string Try.underlying9 f2
    obtain ⟨n3, e3, _, _⟩ := DataW.trod_int Try.underlying3 f3
    simp at e0 e1 e2 e3
    subst e0 e1 e2 e3
    exact ⟨⟨n0, s1, s2, n3⟩, rfl, trivial⟩
theorem u8_low {n : Int} (h : (Lit.int .u8 n).wf = true) : 0 ≤ n := by
  simp [Lit.wf] at h
  have h0 : IntKind.u8.min = 0 := by decide
  omega
theorem u8_high {n : Int} (h : (Lit.int .u8 n).wf = true) : n ≤ 255 := by
  simp [Lit.wf] at h
  have h0 : IntKind.u8.max = 255 := by decide
  omega
end Go.Proofs.Ytcaeechlpadboaa
