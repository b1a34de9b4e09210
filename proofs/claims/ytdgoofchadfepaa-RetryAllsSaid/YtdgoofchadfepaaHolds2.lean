/-
  RetryHolds: the walk where the policy is right.
-/
import Derived.Test.YtdgoofchadfepaaHolds
namespace Go.Proofs.Ytdgoofchadfepaa
open Go.RowKit Go.Shelf

set_option maxRecDepth 100000 in
set_option maxHeartbeats 8000000 in
theorem holds_yes (p : Po) (d1 d2 : Nat) (h1 : d1 < 4294967296) (h2 : d2 < 4294967296) (hr : Right p) (n : Nat) (hn : p.most = n) (w : World) : Calls Try.prog 6 #[p.v, .int .u32 d1, .int .u32 d2] w fun e w' => e = .returned (.bool true) ∧ Below w.heap.size w w' := by
  have S : Hid (Lie w.heap.size w (w.alloc (pobj p)) [box w.heap.size (pobj p)]) := hide ((Lie.start w).alloc (pobj p))
  have HD := hide h1
  have HR := hide hr
  have HN := hide hn
  have hn30 : n ≤ 30 := by have := hr.m2; omega
  have hmin := fun ts t w => run_min_u32 d1 d2 ts t w
  have hmax := fun ts t w => run_max_u32 d1 d2 ts t w
  obtain ⟨lo, hlo⟩ : ∃ lo, lo = min d1 d2 := ⟨_, rfl⟩
  obtain ⟨hi, hhi⟩ : ∃ hi, hi = max d1 d2 := ⟨_, rfl⟩
  have hlh : lo ≤ hi := by omega
  have hhl : hi < 4294967296 := by omega
  rw [← hlo] at hmin
  rw [← hhi] at hmax
  have HA := hide (fun (k : Nat) (hk : (k : Int) + 1 ≤ n) => att_of p hr k lo hi (by omega) hlh hhl)
  have HLL := hide (show lo < 4294967296 by omega)
  have HHL := hide hhl
  have HB1 : Hid (baseOf p (p.most + 1) = (0, 4)) := hide (baseOf_none p (p.most + 1) hr (by omega) (by omega))
  have HW1 : Hid (waitOf p (p.most + 1) d1 = (0, 4)) := hide (by rw [waitOf_err p _ d1 (by rw [HB1.out]; simp), HB1.out])
  have HTO : Hid (totalOf p = sumOf (upto p n)) := hide (by unfold totalOf; rw [if_pos hr, hn]; rfl)
  have hmost := hr.m2
  have hcap := hr.c2
  clear h1 h2 hr hn hlo hhi hlh hhl
  go_enter Try.func6, Try.ntmps6
  go_wp2_with fail
  refine (awake_L S.out).mono ?_
  rintro e w1 ⟨rfl, S1⟩
  obtain ⟨c0, c1, c2, c3, c4, c5⟩ := pcells (S1.out.get 0 rfl)
  go_wp2_with fail
  refine (checkY_L p HR.out S1.out).mono ?_
  rintro e w2 ⟨rfl, S2⟩
  have I0 : HoldsInv p 0 0 0 w w2 := ⟨rfl, Int.le_refl _, Int.le_refl _, S2.out⟩
  clear c0 c1 c2 c3 c4 c5 S S1 S2
  go_wp2_with fail
  go_loopw [11, 12, 13] (fun a s i wr => ∃ (k : Nat) (last sum : Int), k ≤ n ∧ i = .int .i64 ((k : Int) + 1) ∧ a = .int .i64 last ∧ s = .int .i64 sum ∧ HoldsInv p k last sum w wr) (fun _ _ i _ => n + 1 - (intOf i).toNat)
  case atStart => exact ⟨0, 0, 0, by omega, rfl, rfl, rfl, I0⟩
  case round =>
    clear I0 hmin hmax
    obtain ⟨k, last, sum, hk, rfl, rfl, rfl, hlast, hs0, hs1, hS⟩ := hrel
    have S3 := hide hS
    have hsb := (sumOf_bd p HR.out n hn30 _ (upto_prefix p k n hk)).2
    obtain ⟨c0, c1, c2, c3, c4, c5⟩ := pcells (hS.get 0 rfl)
    clear hS
    by_cases hlt : k < n
    · have hki : (k : Int) + 1 ≤ p.most := by have := HN.out; omega
      obtain ⟨b, wl, v, A⟩ := HA.out k (by omega)
      have HAt := hide A
      have HL1 := hide hlast
      have HS0 := hide hs0
      have HS1 := hide hs1
      have HSB := hide hsb
      clear A hlast hs0 hs1 hsb
      go_wp2_with fail
      refine (base_L p ((k : Int) + 1) S3.out).mono ?_
      rintro e w4 ⟨rfl, S4⟩
      rw [HAt.out.base]
      clear c0 c1 c2 c3 c4 c5
      obtain ⟨c0, c1, c2, c3, c4, c5⟩ := pcells (S4.out.get 0 rfl)
      go_wp2_with fail
      refine (wait_L p ((k : Int) + 1) lo HLL.out S4.out).mono ?_
      rintro e w5 ⟨rfl, S5⟩
      rw [HAt.out.wlo]
      clear c0 c1 c2 c3 c4 c5
      obtain ⟨c0, c1, c2, c3, c4, c5⟩ := pcells (S5.out.get 0 rfl)
      go_wp2_with fail
      refine (wait_L p ((k : Int) + 1) hi HHL.out S5.out).mono ?_
      rintro e w6 ⟨rfl, S6⟩
      rw [HAt.out.whi]
      clear c0 c1 c2 c3 c4 c5
      obtain ⟨c0, c1, c2, c3, c4, c5⟩ := pcells (S6.out.get 0 rfl)
      go_wp2_with fail
      refine (wait_L p ((k : Int) + 1) 0 (by decide) S6.out).mono ?_
      rintro e w7 ⟨rfl, S7⟩
      rw [HAt.out.w0]
      clear c0 c1 c2 c3 c4 c5
      obtain ⟨c0, c1, c2, c3, c4, c5⟩ := pcells (S7.out.get 0 rfl)
      have A := HAt.out
      have hlast := HL1.out
      have hs0 := HS0.out
      have hs1 := HS1.out
      have hsb := HSB.out
      have hb := bas_bd p HR.out k
      rw [← A.isb] at hb
      have hlb : last ≤ b ∧ p.first ≤ b := by
        rw [hlast, A.isb]
        cases k with
        | zero => exact ⟨by have := HR.out.f1; show (0 : Int) ≤ p.first; omega, Int.le_refl _⟩
        | succ k =>
          refine ⟨bas_mono p HR.out k, ?_⟩
          have hfb : ∀ j, p.first ≤ bas p j := fun j => by
            induction j with
            | zero => exact Int.le_refl _
            | succ j ih => exact Int.le_trans ih (bas_mono p HR.out j)
          exact hfb _
      have hv1 := A.v1
      have hvw := A.vw
      have hwb := A.wb
      have hfew := A.few
      have hs0' := A.s0
      have hmul : 0 ≤ b * p.spread ∧ b * p.spread ≤ 1099511627776000 := by
        have := HR.out.s1
        have := HR.out.s2
        refine ⟨Int.mul_nonneg (by omega) (by omega), ?_⟩
        have := Int.mul_le_mul (show b ≤ 1099511627776 by omega) (show p.spread ≤ 1000 by omega) (by omega) (by omega)
        omega
      have hnext : Hid (sum + v ≤ sumOf (upto p (k + 1)) ∧ b = prev p (k + 1)) := hide ⟨by rw [upto_succ, sumOf_snoc]; simp only; rw [← A.isb]; omega, A.isb⟩
      clear A hs1
      generalize hq : b * p.spread = q at *
      have hs0'' : (p.spread == 0) = false ∨ (p.spread = 0 ∧ v = b) := by
        by_cases h : p.spread = 0
        · exact .inr ⟨h, hs0' h⟩
        · exact .inl (by simpa using h)
      have hbs : (b == b) = true := by simp
      clear hs0' hlast
      clear hsb
      have hdq : 0 ≤ q / 1000 := by omega
      rcases hs0'' with hsp | ⟨hsp, hvb⟩
      · go_wp2_with fail
        go_roundw
        case rel => exact ⟨k + 1, b, sum + v, by omega, by go_num, rfl, (by have h1 := HSB.out; have h2 := HS1.out; have h3 : sum + v ≤ 40000000000000 := (by omega); rw [Go.IntWalk.wrap64_in _ ⟨by omega, by omega⟩]), hnext.out.2, by omega, hnext.out.1, S7.out⟩
        case measure => simp [intOf]; omega
      · subst hvb
        have hsp' : (p.spread == 0) = true := by simpa using hsp
        clear hsp
        go_wp2_with fail
        go_roundw
        case rel => exact ⟨k + 1, v, sum + v, by omega, by go_num, rfl, (by have h1 := HSB.out; have h2 := HS1.out; have h3 : sum + v ≤ 40000000000000 := (by omega); rw [Go.IntWalk.wrap64_in _ ⟨by omega, by omega⟩]), hnext.out.2, by omega, hnext.out.1, S7.out⟩
        case measure => simp [intOf]; omega
    · have hkn : k = n := by omega
      have hm0 : 0 ≤ p.most := by have := HN.out; omega
      have hki : ¬ ((k : Int) + 1 ≤ p.most) := by have := HN.out; omega
      have hb1 : baseOf p (p.most + 1) = (0, 4) := HB1.out
      have hw1 : waitOf p (p.most + 1) d1 = (0, 4) := HW1.out
      have hle : Hid (sum ≤ totalOf p) := hide (by rw [HTO.out, ← hkn]; exact hs1)
      clear hs1 hsb hlast
      have HB := hide hb1
      have HW := hide hw1
      clear hb1 hw1
      go_wp2_with fail
      refine (base_L p (p.most + 1) S3.out).mono ?_
      rintro e w4 ⟨rfl, S4⟩
      rw [HB.out]
      clear c0 c1 c2 c3 c4 c5
      obtain ⟨c0, c1, c2, c3, c4, c5⟩ := pcells (S4.out.get 0 rfl)
      go_wp2_with fail
      refine (wait_L p (p.most + 1) d1 HD.out S4.out).mono ?_
      rintro e w5 ⟨rfl, S5⟩
      rw [HW.out]
      clear c0 c1 c2 c3 c4 c5
      obtain ⟨c0, c1, c2, c3, c4, c5⟩ := pcells (S5.out.get 0 rfl)
      go_wp2_with fail
      refine (total_L p S5.out).mono ?_
      rintro e w6 ⟨rfl, S6⟩
      have hle' := hle.out
      go_wp2_with fail
      go_ret
      exact ⟨by simp, S6.out.below⟩
end Go.Proofs.Ytdgoofchadfepaa
