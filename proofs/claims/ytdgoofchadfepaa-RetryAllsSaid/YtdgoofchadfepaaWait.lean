/-
  Mul64; Wait.
-/
import Derived.Test.YtdgoofchadfepaaBase
import Derived.Shelf.Bits.Mul64
import Derived.Laws.BitsAllLaws
namespace Go.Proofs.Ytdgoofchadfepaa
open Go.RowKit Go.Shelf

set_option maxRecDepth 100000 in
set_option maxHeartbeats 1000000 in
theorem mul64 (x y : Nat) (hx : x < 18446744073709551616) (hy : y < 18446744073709551616) (w : World) :
    Calls Try.prog 17 #[.int .u64 x, .int .u64 y] w fun e w' => e = .returned (.tuple #[.int .u64 ((x * y / 18446744073709551616 : Nat) : Int), .int .u64 ((x * y % 18446744073709551616 : Nat) : Int)]) ∧ w' = w := by
  obtain ⟨bd, bt, bw, hhi⟩ := Lib.mul64_hi x y hx hy
  have ba := Lib.half_mul_le (a := x / 4294967296) (b := y / 4294967296) (by omega) (by omega)
  have bb := Lib.half_mul_le (a := x / 4294967296) (b := y % 4294967296) (by omega) (by omega)
  have bc := Lib.half_mul_le (a := x % 4294967296) (b := y / 4294967296) (by omega) (by omega)
  have ba' : x / 4294967296 * (y / 4294967296) < 18446744073709551616 := by omega
  have bb' : x / 4294967296 * (y % 4294967296) < 18446744073709551616 := by omega
  have bc' : x % 4294967296 * (y / 4294967296) < 18446744073709551616 := by omega
  have bh1 : x / 4294967296 * (y / 4294967296) + (x / 4294967296 * (y % 4294967296) + x % 4294967296 * (y % 4294967296) / 4294967296) / 4294967296 < 18446744073709551616 := by omega
  have bh : x / 4294967296 * (y / 4294967296) + (x / 4294967296 * (y % 4294967296) + x % 4294967296 * (y % 4294967296) / 4294967296) / 4294967296 + ((x / 4294967296 * (y % 4294967296) + x % 4294967296 * (y % 4294967296) / 4294967296) % 4294967296 + x % 4294967296 * (y / 4294967296)) / 4294967296 < 18446744073709551616 := by omega
  go_enter Try.func17, Try.ntmps17
  go_wp2
  simp only [Mul64.maskN x hx, Mul64.maskN y hy, Mul64.divN, Mul64.mulN, Mul64.addN, Mul64.wrapN _ bd, Mul64.wrapN _ bb', Mul64.wrapN _ bt, Mul64.maskN _ bt, Mul64.wrapN _ bc', Mul64.wrapN _ bw, Mul64.wrapN _ ba', Mul64.wrapN _ bh1, Mul64.wrapN _ bh, Mul64.wrapM (x * y)]
  rw [hhi]
  go_ret2
  exact ⟨rfl, rfl⟩

set_option maxRecDepth 100000 in
theorem wait_err (p : Po) (a : Int) (d : Nat) (w : World) (e : Int) (he : e ≠ 0) (hb : (baseOf p a).2 = e) : Calls Try.prog 9 #[p.v, .int .i64 a, .int .u32 d] w (TellsTwo 0 e w) := by
  have hne : (e == 0) = false := by simpa using he
  have HB := hide hb
  clear hb he
  go_enter Try.func9, Try.ntmps9
  go_wp2_with fail
  refine (base_any p a _).mono ?_
  rintro en w1 ⟨rfl, b1⟩
  rw [HB.out]
  generalize (baseOf p a).1 = b at *
  have B1 := hide (show Below w.heap.size w w1 from ((Below.refl _ w).alloc (Nat.le_refl _) _).trans (b1.mono (by simp)))
  clear b1
  go_wp2_with fail
  go_ret2
  exact ⟨rfl, B1.out⟩

theorem ret_two {a c e : Int} (h : a = c) : Ending.returned (.tuple #[.int .i64 a, .int .i64 e]) = .returned (.tuple #[.int .i64 c, .int .i64 e]) := by rw [h]
theorem or_halves (hi lo : Nat) (h1 : hi ≤ 256) (h2 : lo < 18446744073709551616) : bits .or .u64 ((hi : Int) * 4294967296) ((lo : Int) / 4294967296) = ((hi * 4294967296 + lo / 4294967296 : Nat) : Int) := by
  have e1 : (hi : Int) * 4294967296 = ((hi * 4294967296 : Nat) : Int) := by omega
  have e2 : (lo : Int) / 4294967296 = ((lo / 4294967296 : Nat) : Int) := by omega
  rw [e1, e2, u64_or_nat _ _ (by omega) (by omega)]
  have := Nat.shiftLeft_add_eq_or_of_lt (b := lo / 4294967296) (i := 32) (by omega) hi
  rw [Nat.shiftLeft_eq] at this
  exact congrArg _ this.symm
/-- A base less so much, at least 1. -/
def lessBy (b : Int) (n : Nat) : Int := if b - (n : Int) < 1 then 1 else b - (n : Int)
set_option maxRecDepth 100000 in
set_option maxHeartbeats 1000000 in
theorem wait_go (p : Po) (a : Int) (d : Nat) (hd : d < 4294967296) (w : World) (hr : Right p) (k : Nat) (hb : baseOf p a = (bas p k, 0)) (x : Nat) (hx : bas p k * p.spread / 1000 = x) :
    Calls Try.prog 9 #[p.v, .int .i64 a, .int .u32 d] w (TellsTwo (lessBy (bas p k) (x * d / 4294967296)) 0 w) := by
  have hbb := bas_bd p hr k
  have hc := hr.c2
  have hs1 := hr.s1
  have hs2 := hr.s2
  have hm : 0 ≤ bas p k * p.spread ∧ bas p k * p.spread ≤ 1099511627776000 := by
    refine ⟨Int.mul_nonneg (by omega) hs1, ?_⟩
    have := Int.mul_le_mul (show bas p k ≤ 1099511627776 by omega) hs2 hs1 (by omega)
    omega
  have HB := hide hb
  have h1 : Hid (p.spread = p.spread) := hide rfl
  clear hb hr
  generalize bas p k = b at *
  generalize hq : b * p.spread = q at *
  have hxl : x ≤ 1099511627776 := by omega
  have hxi : (0 : Int) ≤ q / 1000 := by omega
  go_enter Try.func9, Try.ntmps9
  go_wp2_with fail
  refine (base_any p a _).mono ?_
  rintro en w1 ⟨rfl, b1⟩
  rw [HB.out]
  have c4 : w1.cell? ⟨w.heap.size, 4, none⟩ = some (.int .i64 p.spread) := (b1.cell (p := ⟨w.heap.size, 4, none⟩) (by simp)).trans (by simp [go_sem])
  have B1 := hide (show Below w.heap.size w w1 from ((Below.refl _ w).alloc (Nat.le_refl _) _).trans (b1.mono (by simp)))
  clear b1
  go_wp2_with fail
  refine (mul64 x d (by omega) (by omega) w1).mono ?_
  rintro en w' ⟨rfl, hw'⟩
  rw [hw']
  clear hw'
  have hxd : x * d ≤ 4722366481770133585920 := by
    have := Nat.mul_le_mul (show x ≤ 1099511627776 by omega) (show d ≤ 4294967295 by omega)
    omega
  generalize x * d = m at *
  have hhi : m / 18446744073709551616 ≤ 256 := by omega
  have hlo : m % 18446744073709551616 < 18446744073709551616 := by omega
  obtain ⟨hi, hhi2⟩ : ∃ hi, hi = m / 18446744073709551616 := ⟨_, rfl⟩
  obtain ⟨lo, hlo2⟩ : ∃ lo, lo = m % 18446744073709551616 := ⟨_, rfl⟩
  rw [← hhi2] at hhi ⊢
  rw [← hlo2] at hlo ⊢
  obtain ⟨r, hr⟩ : ∃ r : Nat, r = m / 4294967296 := ⟨_, rfl⟩
  have hor := or_halves hi lo hhi hlo
  rw [show hi * 4294967296 + lo / 4294967296 = r by omega] at hor
  have hrl : r ≤ 1099511627776 := by omega
  have HRR := hide hr
  clear hhi2 hlo2 hr
  by_cases hlt : b - (r : Int) < 1
  · have E := hide (show lessBy b r = 1 by unfold lessBy; rw [if_pos hlt])
    go_wp2_with fail
    go_ret2
    exact ⟨ret_two (by rw [← HRR.out, E.out]), B1.out⟩
  · have E := hide (show lessBy b r = b - (r : Int) by unfold lessBy; rw [if_neg hlt])
    go_wp2_with fail
    go_ret2
    exact ⟨ret_two (by rw [← HRR.out, E.out]), B1.out⟩
end Go.Proofs.Ytdgoofchadfepaa
