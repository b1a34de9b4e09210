/-
  RetryKnown: the walk.
-/
import Derived.Test.YtdgoofchadfepaaHolds
namespace Go.Proofs.Ytdgoofchadfepaa
open Go.RowKit Go.Shelf

theorem kb (k : Nat) (h : (k : Int) + 1 ≤ 8) : baseOf pol ((k : Int) + 1) = (bas pol k, 0) := by
  rw [baseOf_go pol _ pol_right (by omega) h]
  congr 2
  omega
theorem kb1 : baseOf pol 1 = (100, 0) := (baseOf_go pol 1 pol_right (by decide) (by decide)).trans rfl
theorem kb2 : baseOf pol 2 = (150, 0) := (baseOf_go pol 2 pol_right (by decide) (by decide)).trans rfl
theorem kb4 : baseOf pol 4 = (337, 0) := (baseOf_go pol 4 pol_right (by decide) (by decide)).trans rfl
theorem kb8 : baseOf pol 8 = (1000, 0) := (baseOf_go pol 8 pol_right (by decide) (by decide)).trans rfl
theorem kb9 : baseOf pol 9 = (0, 4) := baseOf_none pol 9 pol_right (by decide) (by decide)
theorem kb0 : baseOf pol 0 = (0, 1) := baseOf_arg pol 0 (.inr (by decide))
theorem kw0 : waitOf pol 1 0 = (100, 0) := (waitOf_go pol 1 0 _ kb1).trans rfl
theorem kw1 : waitOf pol 1 2147483648 = (75, 0) := (waitOf_go pol 1 2147483648 _ kb1).trans rfl
theorem kw2 : waitOf pol 1 4294967295 = (51, 0) := (waitOf_go pol 1 4294967295 _ kb1).trans rfl
theorem ksum : sumOf (upto pol 8) = 4074 := rfl
theorem pol1_not : ¬ Right ⟨100, 1000, 1, 2, 500, 8⟩ := fun h => absurd h.n1 (by decide)
def KnownInv (w : World) (pb : Nat) (k : Nat) (wr : World) : Prop := Lie w.heap.size w wr [box pb (pobj pol)]

set_option maxRecDepth 100000 in
set_option maxHeartbeats 8000000 in
theorem known_ok (w : World) : Calls Try.prog 3 #[] w fun e w' => e = .returned (.bool true) ∧ Below w.heap.size w w' := by
  go_enter Try.func3, Try.ntmps3
  go_wp2_with fail
  refine (policy_any w).mono ?_
  rintro e w1 ⟨rfl, t1⟩
  have s1 : Lie w.heap.size w (w1.alloc (pobj pol)) [box w1.heap.size (pobj pol)] := ((Lie.start w).stay t1).alloc _
  have K0 : KnownInv w w1.heap.size 0 (w1.alloc (.cells #[.int .i64 100, .int .i64 1000, .int .i64 3, .int .i64 2, .int .i64 500, .int .i64 8] 23)) := s1
  clear s1 t1
  go_wp2_with fail
  generalize w1.heap.size = pb at *
  go_loopw [2, 3] (fun s i wr => ∃ k : Nat, k ≤ 8 ∧ i = .int .i64 ((k : Int) + 1) ∧ s = .int .i64 (sumOf (upto pol k)) ∧ KnownInv w pb k wr) (fun _ i _ => 9 - (intOf i).toNat)
  case atStart => exact ⟨0, by omega, rfl, rfl, K0⟩
  case round =>
  clear K0
  obtain ⟨k, hk, rfl, rfl, hS⟩ := hrel
  have S9 : Hid (Lie w.heap.size w wr [box pb (pobj pol)]) := hide hS
  obtain ⟨c0, c1, c2, c3, c4, c5⟩ := pcells (p := pol) (S9.out.get 0 rfl)
  clear hS
  by_cases hlt : k < 8
  · have hki : (k : Int) + 1 ≤ 8 := by omega
    have hs := sumOf_bd pol pol_right 8 (by decide) _ (upto_prefix pol k 8 hk)
    have hb := bas_bd pol pol_right k
    have hc : pol.cap = 1000 := rfl
    rw [hc] at hb
    have hnext := hide (show sumOf (upto pol (k + 1)) = sumOf (upto pol k) + bas pol k by rw [upto_succ, sumOf_snoc])
    have HB := hide (kb k hki)
    clear hc
    generalize bas pol k = b at *
    generalize sumOf (upto pol k) = s at *
    go_wp2_with fail
    refine (base_L pol ((k : Int) + 1) S9.out).mono ?_
    rintro e w2 ⟨rfl, S2⟩
    rw [HB.out]
    clear c0 c1 c2 c3 c4 c5
    go_wp2_with fail
    go_roundw
    case rel => exact ⟨k + 1, by omega, by go_num, by rw [hnext.out], S2.out⟩
    case measure => simp [intOf]; omega
  obtain rfl : k = 8 := by omega
  rw [ksum]
  go_wp2_with fail
  refine (base_L pol 1 S9.out).mono ?_
  rintro e w11 ⟨rfl, S11⟩
  rw [kb1]
  clear c0 c1 c2 c3 c4 c5
  obtain ⟨c0, c1, c2, c3, c4, c5⟩ := pcells (p := pol) (S11.out.get 0 rfl)
  go_wp2_with fail
  refine (base_L pol 2 S11.out).mono ?_
  rintro e w12 ⟨rfl, S12⟩
  rw [kb2]
  clear c0 c1 c2 c3 c4 c5
  obtain ⟨c0, c1, c2, c3, c4, c5⟩ := pcells (p := pol) (S12.out.get 0 rfl)
  go_wp2_with fail
  refine (base_L pol 4 S12.out).mono ?_
  rintro e w13 ⟨rfl, S13⟩
  rw [kb4]
  clear c0 c1 c2 c3 c4 c5
  obtain ⟨c0, c1, c2, c3, c4, c5⟩ := pcells (p := pol) (S13.out.get 0 rfl)
  go_wp2_with fail
  refine (base_L pol 8 S13.out).mono ?_
  rintro e w14 ⟨rfl, S14⟩
  rw [kb8]
  clear c0 c1 c2 c3 c4 c5
  obtain ⟨c0, c1, c2, c3, c4, c5⟩ := pcells (p := pol) (S14.out.get 0 rfl)
  go_wp2_with fail
  refine (base_L pol 9 S14.out).mono ?_
  rintro e w15 ⟨rfl, S15⟩
  rw [kb9]
  clear c0 c1 c2 c3 c4 c5
  obtain ⟨c0, c1, c2, c3, c4, c5⟩ := pcells (p := pol) (S15.out.get 0 rfl)
  go_wp2_with fail
  refine (base_L pol 0 S15.out).mono ?_
  rintro e w16 ⟨rfl, S16⟩
  rw [kb0]
  clear c0 c1 c2 c3 c4 c5
  obtain ⟨c0, c1, c2, c3, c4, c5⟩ := pcells (p := pol) (S16.out.get 0 rfl)
  go_wp2_with fail
  refine (wait_L pol 1 0 (by decide) S16.out).mono ?_
  rintro e w17 ⟨rfl, S17⟩
  rw [kw0]
  clear c0 c1 c2 c3 c4 c5
  obtain ⟨c0, c1, c2, c3, c4, c5⟩ := pcells (p := pol) (S17.out.get 0 rfl)
  go_wp2_with fail
  refine (wait_L pol 1 2147483648 (by decide) S17.out).mono ?_
  rintro e w18 ⟨rfl, S18⟩
  rw [kw1]
  clear c0 c1 c2 c3 c4 c5
  obtain ⟨c0, c1, c2, c3, c4, c5⟩ := pcells (p := pol) (S18.out.get 0 rfl)
  go_wp2_with fail
  refine (wait_L pol 1 4294967295 (by decide) S18.out).mono ?_
  rintro e w19 ⟨rfl, S19⟩
  rw [kw2]
  clear c0 c1 c2 c3 c4 c5
  obtain ⟨c0, c1, c2, c3, c4, c5⟩ := pcells (p := pol) (S19.out.get 0 rfl)
  have f2 := (box_cell (S19.out.get 0 rfl) 2).2
  have s20 : Lie w.heap.size w _ [box pb (pobj ⟨100, 1000, 1, 2, 500, 8⟩)] := S19.out.setBox 0 rfl 2 (.int .i64 1)
  have S20 := hide s20
  clear s20
  go_wp2_with fail
  refine (awake_L S20.out).mono ?_
  rintro e w30 ⟨rfl, S30⟩
  clear c0 c1 c2 c3 c4 c5 f2
  obtain ⟨c0, c1, c2, c3, c4, c5⟩ := pcells (p := ⟨100, 1000, 1, 2, 500, 8⟩) (S30.out.get 0 rfl)
  go_wp2_with fail
  refine (policy_any w30).mono ?_
  rintro e w31 ⟨rfl, t31⟩
  have S31 := hide (S30.out.stay t31)
  clear c0 c1 c2 c3 c4 c5 t31
  obtain ⟨c0, c1, c2, c3, c4, c5⟩ := pcells (p := ⟨100, 1000, 1, 2, 500, 8⟩) (S31.out.get 0 rfl)
  go_wp2_with fail
  refine (total_L pol S31.out).mono ?_
  rintro e w32 ⟨rfl, S32⟩
  rw [pol_total]
  clear c0 c1 c2 c3 c4 c5
  obtain ⟨c0, c1, c2, c3, c4, c5⟩ := pcells (p := ⟨100, 1000, 1, 2, 500, 8⟩) (S32.out.get 0 rfl)
  go_wp2_with fail
  refine (checkN_L ⟨100, 1000, 1, 2, 500, 8⟩ pol1_not S32.out).mono ?_
  rintro e w33 ⟨rfl, S33⟩
  clear c0 c1 c2 c3 c4 c5
  go_wp2_with fail
  go_ret
  exact ⟨rfl, S33.out.below⟩
end Go.Proofs.Ytdgoofchadfepaa
