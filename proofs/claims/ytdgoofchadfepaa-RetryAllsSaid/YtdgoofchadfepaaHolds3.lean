/-
  RetryHolds at every argument: a policy that came in, two draws that came in.
-/
import Derived.Test.YtdgoofchadfepaaHolds2
namespace Go.Proofs.Ytdgoofchadfepaa
open Go.RowKit Go.Shelf Go.WideShapes

theorem u32_of (n : Int) (h : (Lit.int .u32 n).wf = true) : ∃ d : Nat, n = d ∧ d < 4294967296 := by
  have h' : 0 ≤ n ∧ n < 4294967296 := by
    have e1 : IntKind.u32.min = 0 := by decide
    have e2 : IntKind.u32.max = 4294967295 := by decide
    simp [Lit.wf, e1, e2] at h
    omega
  exact ⟨n.toNat, by omega, by omega⟩

theorem cells23 : Try.prog.cellsOf 23 = 6 := by kernel_rfl
theorem cells2' : Try.prog.cellsOf 2 = 1 := by kernel_rfl
theorem cells3' : Try.prog.cellsOf 3 = 1 := by kernel_rfl
theorem po_of {H : Type} {enc : TypeId × Value → H} {w : World} {r : Reach} {base : Nat} {v : Value} {d : DataW H} {p : List MemPlace} (hv : Value.okWide Try.prog w r base 23 v) (h : DataW.Trod enc Try.prog w 0 (fun _ => true) true 23 v d p) :
    ∃ P : Po, v = P.v := by
  simp only [Value.okWide, Try.underlying23] at hv
  obtain ⟨cs, rfl, hsz, _⟩ := hv
  obtain ⟨fuel, hf⟩ := h
  obtain ⟨xs, m, _, _, hlen, hxl, hx⟩ := DataW.trod_struct Try.underlying23 hf
  obtain ⟨l⟩ := cs
  rw [cells23] at hsz
  match l, hsz, xs, hxl with
  | [a0, a1, a2, a3, a4, a5], _, [y0, y1, y2, y3, y4, y5], _ =>
    have f0 := hx 0 _ rfl
    have f1 := hx 1 _ rfl
    have f2 := hx 2 _ rfl
    have f3 := hx 3 _ rfl
    have f4 := hx 4 _ rfl
    have f5 := hx 5 _ rfl
    simp [cells2', cells3', Value.cells] at f0 f1 f2 f3 f4 f5
    obtain ⟨n0, e0, _, _⟩ := DataW.trod_int Try.underlying2 f0
    obtain ⟨n1, e1, _, _⟩ := DataW.trod_int Try.underlying2 f1
    obtain ⟨n2, e2, _, _⟩ := DataW.trod_int Try.underlying2 f2
    obtain ⟨n3, e3, _, _⟩ := DataW.trod_int Try.underlying2 f3
    obtain ⟨n4, e4, _, _⟩ := DataW.trod_int Try.underlying2 f4
    obtain ⟨n5, e5, _, _⟩ := DataW.trod_int Try.underlying3 f5
    simp at e0 e1 e2 e3 e4 e5
    subst e0 e1 e2 e3 e4 e5
    exact ⟨⟨n0, n1, n2, n3, n4, n5⟩, rfl⟩

theorem holds_any (v : Value) (n1 n2 : Int) (hv : ∃ P : Po, v = P.v) (h1 : (Lit.int .u32 n1).wf = true) (h2 : (Lit.int .u32 n2).wf = true) (w : World) : Calls Try.prog 6 #[v, .int .u32 n1, .int .u32 n2] w fun e w' => e = .returned (.bool true) ∧ Below w.heap.size w w' := by
  obtain ⟨p, rfl⟩ := hv
  obtain ⟨d1, rfl, hd1⟩ := u32_of n1 h1
  obtain ⟨d2, rfl, hd2⟩ := u32_of n2 h2
  by_cases hr : Right p
  · exact holds_yes p d1 d2 hd1 hd2 hr p.most.toNat (by have := hr.m1; omega) w
  · exact holds_no p d1 d2 hd1 hr w
end Go.Proofs.Ytdgoofchadfepaa
