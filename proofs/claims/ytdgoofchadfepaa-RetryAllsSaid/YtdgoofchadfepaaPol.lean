/-
  A policy; Check; Right; next.
-/
import Derived.Test.YtdgoofchadfepaaChecked
import Derived.Test.YtdgoofchadfepaaRange
import Derived.Test.YtdgoofchadfepaaStep
import Derived.WalkSpells
import Derived.WalkLawsBesides
import Derived.Outline
import Derived.BigQuiet
import Derived.Deep.QuietTactic
import Derived.Deep.RegionHeld3
import Derived.Deep.RegionWith
import Derived.BigRegion
import Derived.StillTailTactics
namespace Go.Proofs.Ytdgoofchadfepaa
open Go.RowKit

theorem own : ownKnob Try.prog.godebug = none := by kernel_rfl
theorem laidOut : laidOutB Try.prog = true := by kernel_rfl

structure Po where
  first : Int
  cap : Int
  num : Int
  den : Int
  spread : Int
  most : Int
abbrev Po.v (p : Po) : Value := .agg #[.int .i64 p.first, .int .i64 p.cap, .int .i64 p.num, .int .i64 p.den, .int .i64 p.spread, .int .i64 p.most]
abbrev pobj (p : Po) : Obj := .cells #[.int .i64 p.first, .int .i64 p.cap, .int .i64 p.num, .int .i64 p.den, .int .i64 p.spread, .int .i64 p.most] 23 (0, 0)
structure Right (p : Po) : Prop where
  f1 : 1 ≤ p.first
  f2 : p.first ≤ 1099511627776
  c1 : p.first ≤ p.cap
  c2 : p.cap ≤ 1099511627776
  d1 : 1 ≤ p.den
  n1 : p.den ≤ p.num
  n2 : p.num ≤ 1048576
  s1 : 0 ≤ p.spread
  s2 : p.spread ≤ 1000
  m1 : 1 ≤ p.most
  m2 : p.most ≤ 30

def Same (v : Value) (w : World) (e : Ending) (w' : World) : Prop := e = .returned v ∧ Turn (fun _ => False) w w'

set_option maxRecDepth 100000 in
theorem check_yes (p : Po) (h : Right p) (w : World) : Calls Try.prog 12 #[p.v] w (Same (.int .i64 0) w) := by
  obtain ⟨f1, f2, c1, c2, d1, n1, n2, s1, s2, m1, m2⟩ := h
  go_enter Try.func12, Try.ntmps12
  go_wp2
  go_ret
  exact ⟨rfl, (Turn.refl _ w).alloc _⟩
set_option maxRecDepth 100000 in
theorem check_no (p : Po) (h : ¬ Right p) (w : World) : Calls Try.prog 12 #[p.v] w (Same (.int .i64 1) w) := by
  have H := hide h
  clear h
  go_enter Try.func12, Try.ntmps12
  go_wp2
  all_goals
    first
      | (go_ret; exact ⟨rfl, (Turn.refl _ w).alloc _⟩)
      | (exfalso; exact H.out ⟨by omega, by omega, by omega, by omega, by omega, by omega, by omega, by omega, by omega, by omega, by omega⟩)
set_option maxRecDepth 100000 in
theorem right_yes (p : Po) (h : Right p) (w : World) : Calls Try.prog 15 #[p.v] w (Same (.bool true) w) := by
  obtain ⟨f1, f2, c1, c2, d1, n1, n2, s1, s2, m1, m2⟩ := h
  go_enter Try.func15, Try.ntmps15
  go_wp2
  go_ret
  exact ⟨rfl, (Turn.refl _ w).alloc _⟩
set_option maxRecDepth 100000 in
set_option maxHeartbeats 4000000 in
theorem right_no (p : Po) (h : ¬ Right p) (w : World) : Calls Try.prog 15 #[p.v] w (Same (.bool false) w) := by
  by_cases f1 : 1 ≤ p.first
  rotate_left
  · clear h
    go_enter Try.func15, Try.ntmps15
    go_wp2
    go_ret
    exact ⟨rfl, (Turn.refl _ w).alloc _⟩
  by_cases f2 : p.first ≤ 1099511627776
  rotate_left
  · clear h
    go_enter Try.func15, Try.ntmps15
    go_wp2
    go_ret
    exact ⟨rfl, (Turn.refl _ w).alloc _⟩
  by_cases c1 : p.first ≤ p.cap
  rotate_left
  · clear h
    go_enter Try.func15, Try.ntmps15
    go_wp2
    go_ret
    exact ⟨rfl, (Turn.refl _ w).alloc _⟩
  by_cases c2 : p.cap ≤ 1099511627776
  rotate_left
  · clear h
    go_enter Try.func15, Try.ntmps15
    go_wp2
    go_ret
    exact ⟨rfl, (Turn.refl _ w).alloc _⟩
  by_cases d1 : 1 ≤ p.den
  rotate_left
  · clear h
    go_enter Try.func15, Try.ntmps15
    go_wp2
    go_ret
    exact ⟨rfl, (Turn.refl _ w).alloc _⟩
  by_cases n1 : p.den ≤ p.num
  rotate_left
  · clear h
    go_enter Try.func15, Try.ntmps15
    go_wp2
    go_ret
    exact ⟨rfl, (Turn.refl _ w).alloc _⟩
  by_cases n2 : p.num ≤ 1048576
  rotate_left
  · clear h
    go_enter Try.func15, Try.ntmps15
    go_wp2
    go_ret
    exact ⟨rfl, (Turn.refl _ w).alloc _⟩
  by_cases s1 : 0 ≤ p.spread
  rotate_left
  · clear h
    go_enter Try.func15, Try.ntmps15
    go_wp2
    go_ret
    exact ⟨rfl, (Turn.refl _ w).alloc _⟩
  by_cases s2 : p.spread ≤ 1000
  rotate_left
  · clear h
    go_enter Try.func15, Try.ntmps15
    go_wp2
    go_ret
    exact ⟨rfl, (Turn.refl _ w).alloc _⟩
  by_cases m1 : 1 ≤ p.most
  rotate_left
  · clear h
    go_enter Try.func15, Try.ntmps15
    go_wp2
    go_ret
    exact ⟨rfl, (Turn.refl _ w).alloc _⟩
  by_cases m2 : p.most ≤ 30
  rotate_left
  · clear h
    go_enter Try.func15, Try.ntmps15
    go_wp2
    go_ret
    exact ⟨rfl, (Turn.refl _ w).alloc _⟩
  exact absurd ⟨f1, f2, c1, c2, d1, n1, n2, s1, s2, m1, m2⟩ h

/-- The bases. -/
def bas (p : Po) : Nat → Int
  | 0 => p.first
  | k + 1 => if bas p k * p.num / p.den ≤ p.cap then bas p k * p.num / p.den else p.cap
theorem bas_bd (p : Po) (h : Right p) : ∀ k, 1 ≤ bas p k ∧ bas p k ≤ p.cap
  | 0 => ⟨h.f1, h.c1⟩
  | k + 1 => by
    obtain ⟨h1, h2⟩ := bas_bd p h k
    unfold bas
    have hd := h.d1
    have hge : bas p k ≤ bas p k * p.num / p.den := by
      rw [Int.le_ediv_iff_mul_le (by omega)]
      exact Int.mul_le_mul_of_nonneg_left h.n1 (by omega)
    split
    · omega
    · have := h.c1; have := h.f1; omega
theorem bas_mono (p : Po) (h : Right p) (k : Nat) : bas p k ≤ bas p (k + 1) := by
  obtain ⟨h1, h2⟩ := bas_bd p h k
  have hd := h.d1
  have hge : bas p k ≤ bas p k * p.num / p.den := by
    rw [Int.le_ediv_iff_mul_le (by omega)]
    exact Int.mul_le_mul_of_nonneg_left h.n1 (by omega)
  show _ ≤ if _ then _ else _
  split
  · exact hge
  · exact h2
theorem bas_mul (p : Po) (h : Right p) (k : Nat) : 0 ≤ bas p k * p.num ∧ bas p k * p.num ≤ 1152921504606846976 := by
  obtain ⟨h1, h2⟩ := bas_bd p h k
  have := h.c2
  have := h.n2
  have := h.d1
  have := h.n1
  refine ⟨Int.mul_nonneg (by omega) (by omega), ?_⟩
  have := Int.mul_le_mul (show bas p k ≤ 1099511627776 by omega) (show p.num ≤ 1048576 by omega) (by omega) (by omega)
  omega
end Go.Proofs.Ytdgoofchadfepaa
