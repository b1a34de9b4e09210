/-
  RetryHolds: the walk.
-/
import Derived.Test.YtdgoofchadfepaaAwake
namespace Go.Proofs.Ytdgoofchadfepaa
open Go.RowKit Go.Shelf

/-- What is so of the attempt k + 1, of two draws of which the first is the lesser. -/
structure Att (p : Po) (k lo hi : Nat) (b w v : Int) : Prop where
  base : baseOf p ((k : Int) + 1) = (b, 0)
  wlo : waitOf p ((k : Int) + 1) lo = (w, 0)
  whi : waitOf p ((k : Int) + 1) hi = (v, 0)
  w0 : waitOf p ((k : Int) + 1) 0 = (b, 0)
  isb : b = bas p k
  v1 : 1 ≤ v
  vw : v ≤ w
  wb : w ≤ b
  s0 : p.spread = 0 → v = b
  few : b - v ≤ b * p.spread / 1000
theorem lessBy_mono (b : Int) (m n : Nat) (h : m ≤ n) : lessBy b n ≤ lessBy b m := by unfold lessBy; split <;> split <;> omega
theorem att_of (p : Po) (hr : Right p) (k lo hi : Nat) (hk : (k : Int) + 1 ≤ p.most) (hlh : lo ≤ hi) (hhi : hi < 4294967296) : ∃ b w v, Att p k lo hi b w v := by
  have hb := baseOf_go p ((k : Int) + 1) hr (by omega) hk
  rw [show ((k : Int) + 1 - 1).toNat = k by omega] at hb
  have hbb := bas_bd p hr k
  have hs1 := hr.s1
  have hm : 0 ≤ bas p k * p.spread := Int.mul_nonneg (by omega) hs1
  obtain ⟨x, hx⟩ : ∃ x : Nat, bas p k * p.spread / 1000 = x := ⟨(bas p k * p.spread / 1000).toNat, by have := Int.ediv_nonneg hm (show (0 : Int) ≤ 1000 by omega); omega⟩
  have hw := fun d => waitOf_go p ((k : Int) + 1) d _ hb
  simp only [hx, Int.toNat_natCast] at hw
  have h1 : x * lo / 4294967296 ≤ x * hi / 4294967296 := Nat.div_le_div_right (Nat.mul_le_mul_left _ hlh)
  have h2 : x * hi / 4294967296 ≤ x := by
    have : x * hi ≤ x * 4294967296 := Nat.mul_le_mul_left _ (by omega)
    omega
  have h0 : lessBy (bas p k) 0 = bas p k := by unfold lessBy; split <;> omega
  refine ⟨_, _, _, hb, hw lo, hw hi, ?_, rfl, ?_, lessBy_mono _ _ _ h1, ?_, ?_, ?_⟩
  · rw [hw 0, Nat.mul_zero, Nat.zero_div, h0]
  · unfold lessBy; split <;> omega
  · have := lessBy_mono (bas p k) 0 (x * lo / 4294967296) (by omega)
    omega
  · intro hs
    rw [hs, Int.mul_zero, Int.zero_ediv] at hx
    have : x = 0 := by omega
    rw [this, Nat.zero_mul, Nat.zero_div, h0]
  · rw [hx]
    unfold lessBy
    split <;> omega

theorem run_min_u32 (a b : Nat) (ts : Array TypeId) (t : TypeId) (w : World) : (Builtin.min_ ts t #[.int .u32 a, .int .u32 b]).run Try.prog w = .ok (.int .u32 (min a b : Nat)) w := by
  rw [run_min_int2]
  by_cases h : (b : Int) < a
  · rw [if_pos h, Nat.min_eq_right (by omega)]
  · rw [if_neg h, Nat.min_eq_left (by omega)]
theorem run_max_u32 (a b : Nat) (ts : Array TypeId) (t : TypeId) (w : World) : (Builtin.max_ ts t #[.int .u32 a, .int .u32 b]).run Try.prog w = .ok (.int .u32 (max a b : Nat)) w := by
  rw [run_max_int2]
  by_cases h : (a : Int) < b
  · rw [if_pos h, Nat.max_eq_right (by omega)]
  · rw [if_neg h, Nat.max_eq_left (by omega)]
/-- While the attempts are gone over. -/
structure HoldsInv (p : Po) (k : Nat) (last sum : Int) (w : World) (wr : World) : Prop where
  last : last = prev p k
  sum0 : 0 ≤ sum
  sum1 : sum ≤ sumOf (upto p k)
  lie : Lie w.heap.size w wr [box w.heap.size (pobj p)]

set_option maxRecDepth 100000 in
set_option maxHeartbeats 4000000 in
theorem holds_no (p : Po) (d1 d2 : Nat) (h1 : d1 < 4294967296) (hr : ¬ Right p) (w : World) : Calls Try.prog 6 #[p.v, .int .u32 d1, .int .u32 d2] w fun e w' => e = .returned (.bool true) ∧ Below w.heap.size w w' := by
  have S : Hid (Lie w.heap.size w (w.alloc (pobj p)) [box w.heap.size (pobj p)]) := hide ((Lie.start w).alloc (pobj p))
  have HD := hide h1
  have HR := hide hr
  have hw : waitOf p 1 d1 = (0, 1) := by rw [waitOf_err p 1 d1 (by rw [baseOf_arg p 1 (.inl hr)]; simp), baseOf_arg p 1 (.inl hr)]
  have ht : totalOf p = 0 := by unfold totalOf; rw [if_neg hr]
  have HW := hide hw
  have HT := hide ht
  clear h1 hr hw ht
  go_enter Try.func6, Try.ntmps6
  go_wp2_with fail
  refine (awake_L S.out).mono ?_
  rintro e w1 ⟨rfl, S1⟩
  obtain ⟨c0, c1, c2, c3, c4, c5⟩ := pcells (S1.out.get 0 rfl)
  go_wp2_with fail
  refine (checkN_L p HR.out S1.out).mono ?_
  rintro e w2 ⟨rfl, S2⟩
  clear c0 c1 c2 c3 c4 c5
  obtain ⟨c0, c1, c2, c3, c4, c5⟩ := pcells (S2.out.get 0 rfl)
  go_wp2_with fail
  refine (wait_L p 1 d1 HD.out S2.out).mono ?_
  rintro e w3 ⟨rfl, S3⟩
  rw [HW.out]
  clear c0 c1 c2 c3 c4 c5
  obtain ⟨c0, c1, c2, c3, c4, c5⟩ := pcells (S3.out.get 0 rfl)
  go_wp2_with fail
  refine (total_L p S3.out).mono ?_
  rintro e w4 ⟨rfl, S4⟩
  rw [HT.out]
  clear c0 c1 c2 c3 c4 c5
  go_wp2_with fail
  go_ret
  exact ⟨rfl, S4.out.below⟩

end Go.Proofs.Ytdgoofchadfepaa
