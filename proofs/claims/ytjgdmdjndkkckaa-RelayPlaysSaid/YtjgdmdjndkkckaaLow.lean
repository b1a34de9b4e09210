/-
  The statements' own small functions: wakes, same, Great.
-/
import Derived.Test.YtjgdmdjndkkckaaBoxI
namespace Go.Proofs.Ytjgdmdjndkkckaa
open Go.Conc Go.RowKit

theorem drewN_turn {S : Nat → Prop} {a w : World} {n : Nat} {w' : World} (h : Turn S a w) (e : w.drewN n = w') : Turn S a w' := by
  subst e; exact h.drewN n

set_option maxHeartbeats 400000 in
theorem wakes_any (w : World) : Calls Try.prog 8 #[] w fun e w' => e = .returned (.bool true) ∧ Below w.heap.size w w' := by
  go_enter Try.func8, Try.ntmps8
  go_wp2_with fail
  refine (NI.new_box 2 (by omega) (by omega) _).mono ?_
  rintro e w0 ⟨rfl, hb0⟩
  obtain ⟨h0, hbel, hnew⟩ := hb0
  have hb0size := hbel.size
  go_wp2_with fail
  refine (NI.put_ok _ _ _ _ 1 _ h0 (by simp)).mono ?_
  rintro e w1 ⟨rfl, h1⟩
  go_wp2_with fail
  refine (NI.put_ok _ _ _ _ 2 _ h1.box (by simp)).mono ?_
  rintro e w2 ⟨rfl, h2⟩
  go_wp2_with fail
  refine (NI.put_no _ _ _ _ 3 _ h2.box (by simp)).mono ?_
  rintro e w3 ⟨rfl, rfl⟩
  go_wp2_with fail
  refine (NI.take_ok _ _ _ _ 1 _ h2.box).mono ?_
  rintro e w4 ⟨rfl, h4⟩
  go_wp2_with fail
  refine (NI.len_ok _ _ _ _ _ h4.box).mono ?_
  rintro e w5 ⟨rfl, rfl⟩
  go_wp2_with fail
  refine (NI.room_ok _ _ _ _ _ h4.box (by simp) (by simp)).mono ?_
  rintro e w6 ⟨rfl, n6, rfl⟩
  go_wp2
  go_ret
  refine ⟨rfl, ?_⟩
  have t := ((h1.turn.trans h2.turn).trans h4.turn).drewN n6
  exact hbel.trans (t.below hb0size (fun k hk => by omega))
end Go.Proofs.Ytjgdmdjndkkckaa
