/-
  next; All.
-/
import Derived.Test.YtdgoofchadfepaaPol
namespace Go.Proofs.Ytdgoofchadfepaa
open Go.RowKit

abbrev wobj (p : Po) (b : Int) : Obj := .cells #[.int .i64 p.first, .int .i64 p.cap, .int .i64 p.num, .int .i64 p.den, .int .i64 p.spread, .int .i64 p.most, .int .i64 b] 51 (0, 0)
theorem cell7 {w : World} {b : Nat} {a0 a1 a2 a3 a4 a5 a6 : Value} {t : TypeId} (h : w.heap[b]? = some (.cells #[a0, a1, a2, a3, a4, a5, a6] t (0, 0))) :
    w.cell? ⟨b, 0, none⟩ = some a0 ∧ w.cell? ⟨b, 1, none⟩ = some a1 ∧ w.cell? ⟨b, 2, none⟩ = some a2 ∧ w.cell? ⟨b, 3, none⟩ = some a3 ∧ w.cell? ⟨b, 4, none⟩ = some a4 ∧ w.cell? ⟨b, 5, none⟩ = some a5 ∧ w.cell? ⟨b, 6, none⟩ = some a6 ∧ w.frozen? ⟨b, 6, none⟩ = false := by
  simp [World.cell?, World.frozen?, h]
/-- What next leaves. -/
def NextTo (v : Int) (w : World) (wb : Nat) (e : Ending) (w' : World) : Prop := e = .returned (.int .i64 v) ∧ ∃ n, w' = (w.drewN n).setCell ⟨wb, 6, none⟩ (.int .i64 v)
set_option maxRecDepth 100000 in
theorem next_first (p : Po) (wb : Nat) (w : World) (h : w.heap[wb]? = some (wobj p 0)) : Calls Try.prog 19 #[.pointer (some ⟨wb, 0, none⟩)] w (NextTo p.first w wb) := by
  obtain ⟨c0, c1, c2, c3, c4, c5, c6, f6⟩ := cell7 h
  clear h
  go_enter Try.func19, Try.ntmps19
  go_wp2
  go_ret
  exact ⟨rfl, 0, rfl⟩
set_option maxRecDepth 100000 in
set_option maxHeartbeats 1000000 in
theorem next_go (p : Po) (hp : Right p) (k : Nat) (wb : Nat) (w : World) (h : w.heap[wb]? = some (wobj p (bas p k))) : Calls Try.prog 19 #[.pointer (some ⟨wb, 0, none⟩)] w (NextTo (bas p (k + 1)) w wb) := by
  obtain ⟨c0, c1, c2, c3, c4, c5, c6, f6⟩ := cell7 h
  have hb := bas_bd p hp k
  have hm := bas_mul p hp k
  have hd := hp.d1
  have hz : (bas p k == 0) = false := beq_eq_false_iff_ne.2 (by omega)
  have hdz : (p.den == 0) = false := beq_eq_false_iff_ne.2 (by omega)
  have hcap := hp.c2
  have e1 : bas p (k + 1) = if bas p k * p.num / p.den ≤ p.cap then bas p k * p.num / p.den else p.cap := rfl
  have E1 := hide e1
  clear h e1
  generalize bas p k = b at *
  generalize hq : b * p.num = q at *
  have HQ := hide hq
  have hdq : 0 ≤ q / p.den ∧ q / p.den ≤ q := ⟨Int.ediv_nonneg hm.1 (by omega), Int.ediv_le_self _ hm.1⟩
  have hwq : IntKind.i64.wrap q = q := IntWalk.i64_in _ (by omega)
  have htd : q.tdiv p.den = q / p.den := Int.tdiv_eq_ediv_of_nonneg hm.1
  have hwr : IntKind.i64.wrap (q / p.den) = q / p.den := IntWalk.i64_in _ (by omega)
  have hne : p.den ≠ 0 := by omega
  obtain ⟨r, hr⟩ : ∃ r, r = q / p.den := ⟨_, rfl⟩
  rw [← hr] at hdq htd hwr E1
  have HR := hide hr
  clear hr
  obtain ⟨wq, hwq2⟩ : ∃ wq : World, wq = w.drew := ⟨_, rfl⟩
  have HWQ := hide hwq2
  have d0 : wq.frozen? ⟨wb, 6, none⟩ = false := by rw [hwq2]; exact f6
  have d6 : wq.cell? ⟨wb, 6, none⟩ = some (.int .i64 b) := by rw [hwq2]; exact c6
  clear hwq2
  by_cases hle : p.cap < r
  · rw [if_neg (by omega)] at E1
    go_enter Try.func19, Try.ntmps19
    go_wp2_with fail
    go_still_tail 25, (by kernel_rfl)
    change wpList _ _ _ _ _ w.drew
    rw [← HWQ.out]
    go_wp2_with fail
    go_ret
    rw [E1.out]
    exact ⟨rfl, 1, by rw [HWQ.out]; rfl⟩
  · rw [if_pos (by omega)] at E1
    go_enter Try.func19, Try.ntmps19
    go_wp2_with fail
    go_still_tail 25, (by kernel_rfl)
    change wpList _ _ _ _ _ w.drew
    rw [← HWQ.out]
    go_wp2_with fail
    go_ret
    rw [E1.out]
    exact ⟨rfl, 1, by rw [HWQ.out]; rfl⟩

theorem all_any (p : Po) (w : World) : Calls Try.prog 16 #[p.v] w fun e w' => e = .returned (.func (.func 18) #[] #[.pointer (some ⟨w.heap.size, 0, none⟩)]) ∧ w' = w.alloc (pobj p) := by
  go_enter Try.func16, Try.ntmps16
  go_wp2
  go_ret
  exact ⟨rfl, rfl⟩
end Go.Proofs.Ytdgoofchadfepaa
