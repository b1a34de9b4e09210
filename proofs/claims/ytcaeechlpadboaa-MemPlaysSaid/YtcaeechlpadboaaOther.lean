/-
  MemOther: the function that it hands over.
-/
import Derived.Test.YtcaeechlpadboaaMOSI
import Derived.Test.YtcaeechlpadboaaRef2
import Derived.Test.YtcaeechlpadboaaFlaw
namespace Go.Proofs.Ytcaeechlpadboaa
open Go.RowKit Go.Maps Go.Shelf
attribute [local go_sem] Oper.semAt_some

/-- Its four boxes, and the list that it goes along. -/
abbrev boxes4 (base c0 c1 c2 c3 : Nat) (sl : Value) (most : Int) (M : List Pr) (k : Nat) : List Thing := [box c0 (.cells #[.bool false] 4 (0, 0)), box c1 (.cells #[.int .i64 k] 3 (0, 0)), box c2 (.cells #[sl] 22 (0, 0)), box c3 (.cells #[.int .i64 most] 3 (0, 0)), row base 25 2 sl M.length (M.flatMap prc)]
def fOther (most : Int) (x : Pr) : Int × Bool := ((x.2.size : Int), decide ((x.2.size : Int) ≤ most))

set_option maxRecDepth 100000 in
set_option maxHeartbeats 1000000 in
theorem fn16_any {base : Nat} {w0 w : World} {c0 c1 c2 c3 : Nat} {sl : Value} {most : Int} {M : List Pr} {k : Nat} {others : List Thing} (hk : k < M.length) (hM : M.length ≤ 1000) (_hsz : (M[k]).2.size ≤ 1000000) (h : Lie base w0 w (boxes4 base c0 c1 c2 c3 sl most M k ++ others)) :
    Calls Try.prog 16 #[.string (M[k]).1, .string (M[k]).2, MI.pt c0, MI.pt c1, MI.pt c2, MI.pt c3] w fun e w' => e = .returned (.tuple #[.int .i64 (fOther most M[k]).1, .bool (fOther most M[k]).2]) ∧ Hid (Lie base w0 w' (boxes4 base c0 c1 c2 c3 sl most M (k + 1) ++ others)) := by
  obtain ⟨b0, f0⟩ := cell1 (h.get 0 rfl)
  obtain ⟨b1, f1⟩ := cell1 (h.get 1 rfl)
  obtain ⟨b2, f2⟩ := cell1 (h.get 2 rfl)
  obtain ⟨b3, f3⟩ := cell1 (h.get 3 rfl)
  have hr := Rd.of_own (h.get 4 rfl)
  obtain ⟨A, c, rfl⟩ := hr.shape
  obtain ⟨b, o, rfl, hb, hc⟩ := pair_at M hr (by omega)
  obtain ⟨q1, q2⟩ := hc k hk
  have H := hide h
  have e1 : ((M[k]).1.toList == (M[k]).1.toList) = true := by simp
  have e2 : ((M[k]).2.toList == (M[k]).2.toList) = true := by simp
  have HF : Hid (fOther most M[k] = (((M[k]).2.size : Int), decide (((M[k]).2.size : Int) ≤ most))) := hide rfl
  generalize (fOther most M[k]) = fo at *
  generalize (M[k]).1 = key at *
  generalize (M[k]).2 = val at *
  clear h hr hc
  have hdk : decide (M.length ≤ k) = false := decide_eq_false (by omega)
  have W1 : Hid (Lie base w0 (w.setCell ⟨c0, 0, none⟩ (.bool false)) (boxes4 base c0 c1 c2 c3 (.slice (some ⟨b, o, none⟩) M.length c) most M k ++ others)) := hide (H.out.setBox 0 rfl 0 (.bool false))
  obtain ⟨d1, g1⟩ := cell1 (W1.out.get 1 rfl)
  generalize hw1 : w.setCell ⟨c0, 0, none⟩ (.bool false) = v1 at *
  have W2 : Hid (Lie base w0 (v1.setCell ⟨c1, 0, none⟩ (.int .i64 ((k : Int) + 1))) (boxes4 base c0 c1 c2 c3 (.slice (some ⟨b, o, none⟩) M.length c) most M (k + 1) ++ others)) := hide (W1.out.setBox 1 rfl 0 (.int .i64 ((k : Int) + 1)))
  obtain ⟨d3, g3⟩ := cell1 (W2.out.get 3 rfl)
  generalize hw2 : v1.setCell ⟨c1, 0, none⟩ (.int .i64 ((k : Int) + 1)) = v2 at *
  clear W1
  go_enter Try.func16, Try.ntmps16
  go_wp2_with fail
  clear hw1 hw2 g1 g3 d1 b0 b1 b2 b3 f0 f1 f2 f3 q1 q2 hb H
  go_quiet (fail)
  go_wp2_with fail
  go_ret2
  exact ⟨by rw [HF.out]; rfl, hide (W2.out.drewN _)⟩
end Go.Proofs.Ytcaeechlpadboaa
