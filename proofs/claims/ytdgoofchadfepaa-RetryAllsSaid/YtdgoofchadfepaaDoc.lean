/-
  Wait told in one; the document's Base and Wait.
-/
import Derived.Test.YtdgoofchadfepaaWait
namespace Go.Proofs.Ytdgoofchadfepaa
open Go.RowKit Go.Shelf

theorem base_cases (p : Po) (a : Int) : (baseOf p a).2 ≠ 0 ∨ (Right p ∧ 1 ≤ a ∧ a ≤ p.most ∧ baseOf p a = (bas p (a - 1).toNat, 0)) := by
  by_cases h : ¬ Right p ∨ a < 1
  · rw [baseOf_arg p a h]; exact .inl (by simp)
  · have hr : Right p := Classical.byContradiction fun h2 => h (.inl h2)
    have ha : 1 ≤ a := by
      by_cases h1 : a < 1
      · exact absurd (.inr h1) h
      · omega
    by_cases hm : a ≤ p.most
    · exact .inr ⟨hr, ha, hm, baseOf_go p a hr ha hm⟩
    · rw [baseOf_none p a hr ha (by omega)]; exact .inl (by simp)
/-- Wait, and the error. -/
noncomputable def waitOf (p : Po) (a : Int) (d : Nat) : Int × Int :=
  if (baseOf p a).2 = 0 then (lessBy (baseOf p a).1 (((baseOf p a).1 * p.spread / 1000).toNat * d / 4294967296), 0) else (0, (baseOf p a).2)
theorem waitOf_err (p : Po) (a : Int) (d : Nat) (h : (baseOf p a).2 ≠ 0) : waitOf p a d = (0, (baseOf p a).2) := by unfold waitOf; rw [if_neg h]
theorem waitOf_go (p : Po) (a : Int) (d : Nat) (b : Int) (h : baseOf p a = (b, 0)) : waitOf p a d = (lessBy b ((b * p.spread / 1000).toNat * d / 4294967296), 0) := by unfold waitOf; rw [h]; rfl
theorem wait_any (p : Po) (a : Int) (d : Nat) (hd : d < 4294967296) (w : World) : Calls Try.prog 9 #[p.v, .int .i64 a, .int .u32 d] w (TellsTwo (waitOf p a d).1 (waitOf p a d).2 w) := by
  rcases base_cases p a with h | ⟨hr, _, _, h⟩
  · rw [waitOf_err p a d h]
    exact wait_err p a d w _ h rfl
  · rw [waitOf_go p a d _ h]
    have hb := bas_bd p hr (a - 1).toNat
    have := hr.s1
    have hn : 0 ≤ bas p (a - 1).toNat * p.spread / 1000 := Int.ediv_nonneg (Int.mul_nonneg (by omega) this) (by omega)
    exact wait_go p a d hd w hr _ h _ (by omega)

/-- Right. -/
theorem right_any (p : Po) (w : World) : Calls Try.prog 15 #[p.v] w fun e w' => ((Right p ∧ e = .returned (.bool true)) ∨ (¬ Right p ∧ e = .returned (.bool false))) ∧ Turn (fun _ => False) w w' := by
  by_cases h : Right p
  · exact (right_yes p h w).mono fun e w' hs => ⟨.inl ⟨h, hs.1⟩, hs.2⟩
  · exact (right_no p h w).mono fun e w' hs => ⟨.inr ⟨h, hs.1⟩, hs.2⟩

set_option maxRecDepth 100000 in
theorem dbase_arg (p : Po) (a : Int) (h : ¬ Right p ∨ a < 1) (w : World) : Calls Try.prog 13 #[p.v, .int .i64 a] w (TellsTwo 0 1 w) := by
  by_cases hr : Right p
  · have ha : a < 1 := h.resolve_left (fun h => h hr)
    have HR := hide hr
    clear h hr
    go_enter Try.func13, Try.ntmps13
    go_wp2_with fail
    refine (right_yes p HR.out _).mono ?_
    rintro e w1 ⟨rfl, t1⟩
    have T1 := hide (((Turn.refl (fun _ => False) w).alloc (.cells #[.int .i64 p.first, .int .i64 p.cap, .int .i64 p.num, .int .i64 p.den, .int .i64 p.spread, .int .i64 p.most] 23)).trans t1)
    clear t1
    go_wp2_with fail
    go_ret2
    exact ⟨rfl, T1.out.below (Nat.le_refl _) (fun _ h => h.elim)⟩
  · have HN := hide hr
    clear h hr
    go_enter Try.func13, Try.ntmps13
    go_wp2_with fail
    refine (right_no p HN.out _).mono ?_
    rintro e w1 ⟨rfl, t1⟩
    have T1 := hide (((Turn.refl (fun _ => False) w).alloc (.cells #[.int .i64 p.first, .int .i64 p.cap, .int .i64 p.num, .int .i64 p.den, .int .i64 p.spread, .int .i64 p.most] 23)).trans t1)
    clear t1
    go_wp2_with fail
    go_ret2
    exact ⟨rfl, T1.out.below (Nat.le_refl _) (fun _ h => h.elim)⟩

set_option maxRecDepth 100000 in
set_option maxHeartbeats 2000000 in
theorem dbase_go (p : Po) (a : Int) (hr : Right p) (ha : 1 ≤ a) (w : World) :
    Calls Try.prog 13 #[p.v, .int .i64 a] w (TellsTwo (baseOf p a).1 (baseOf p a).2 w) := by
  have HR := hide hr
  have hmost := hr.m2
  have hden := hr.d1
  have hcap := hr.c2
  have hdz : (p.den == 0) = false := beq_eq_false_iff_ne.2 (by omega)
  clear hr
  by_cases hm : p.most < a
  · have HB := hide (baseOf_none p a HR.out ha hm)
    go_enter Try.func13, Try.ntmps13
    go_wp2_with fail
    refine (right_yes p HR.out _).mono ?_
    rintro e w1 ⟨rfl, t1⟩
    obtain ⟨c0, c1, c2, c3, c4, c5⟩ := pcells (t1.obj (heap_alloc_new w (pobj p)) (fun h => h))
    have T1 := hide (((Turn.refl (fun _ => False) w).alloc (.cells #[.int .i64 p.first, .int .i64 p.cap, .int .i64 p.num, .int .i64 p.den, .int .i64 p.spread, .int .i64 p.most] 23)).trans t1)
    clear t1
    go_wp2_with fail
    go_ret2
    exact ⟨by rw [HB.out]; rfl, T1.out.below (Nat.le_refl _) (fun _ h => h.elim)⟩
  · have HB := hide (baseOf_go p a HR.out ha (by omega))
    go_enter Try.func13, Try.ntmps13
    go_wp2_with fail
    refine (right_yes p HR.out _).mono ?_
    rintro e w1 ⟨rfl, t1⟩
    obtain ⟨c0, c1, c2, c3, c4, c5⟩ := pcells (t1.obj (heap_alloc_new w (pobj p)) (fun h => h))
    have T1 := hide (((Turn.refl (fun _ => False) w).alloc (.cells #[.int .i64 p.first, .int .i64 p.cap, .int .i64 p.num, .int .i64 p.den, .int .i64 p.spread, .int .i64 p.most] 23)).trans t1)
    clear t1
    go_wp2_with fail
    go_loop [6, 7] (fun b i => ∃ k : Nat, (k : Int) + 1 ≤ a ∧ i = .int .i64 ((k : Int) + 1) ∧ b = .int .i64 (bas p k)) (fun _ i => (a - intOf i).toNat)
    case atStart => exact ⟨0, by omega, rfl, rfl⟩
    case round =>
      obtain ⟨k, hk, rfl, rfl⟩ := hrel
      have hb := bas_bd p HR.out k
      have hmul := bas_mul p HR.out k
      have HE := hide (show bas p (k + 1) = if bas p k * p.num / p.den ≤ p.cap then bas p k * p.num / p.den else p.cap from rfl)
      have HK := hide (show (bas p (a - 1).toNat = bas p (a - 1).toNat) from rfl)
      by_cases hlt : (k : Int) + 1 < a
      · generalize bas p k = b at *
        generalize hq : b * p.num = q at *
        have hdq : 0 ≤ q / p.den ∧ q / p.den ≤ q := ⟨Int.ediv_nonneg hmul.1 (by omega), Int.ediv_le_self _ hmul.1⟩
        by_cases hle : p.cap < q / p.den
        · have HE2 := hide (show bas p (k + 1) = p.cap by rw [HE.out, if_neg (by omega)])
          go_wp2_with fail
          go_round
          case rel => exact ⟨k + 1, by omega, by go_num, by rw [HE2.out]⟩
          case measure => simp [intOf]; omega
        · have HE2 := hide (show bas p (k + 1) = q / p.den by rw [HE.out, if_pos (by omega)])
          go_wp2_with fail
          go_round
          case rel => exact ⟨k + 1, by omega, by go_num, by rw [HE2.out]⟩
          case measure => simp [intOf]; omega
      · obtain rfl : a = (k : Int) + 1 := by omega
        go_wp2_with fail
        go_ret2
        refine ⟨?_, T1.out.below (Nat.le_refl _) (fun _ h => h.elim)⟩
        rw [HB.out]
        exact ret_two (by congr 1; omega)

theorem dbase_any (p : Po) (a : Int) (w : World) : Calls Try.prog 13 #[p.v, .int .i64 a] w (TellsTwo (baseOf p a).1 (baseOf p a).2 w) := by
  by_cases h : ¬ Right p ∨ a < 1
  · rw [baseOf_arg p a h]
    exact dbase_arg p a h w
  · have hr : Right p := Classical.byContradiction fun h2 => h (.inl h2)
    have ha : 1 ≤ a := by
      by_cases h1 : a < 1
      · exact absurd (.inr h1) h
      · omega
    exact dbase_go p a hr ha w

theorem halves (x d : Nat) : x / 4294967296 * d + x % 4294967296 * d / 4294967296 = x * d / 4294967296 := by
  have e : x * d = x % 4294967296 * d + 4294967296 * (x / 4294967296 * d) := by
    have h : x = x % 4294967296 + 4294967296 * (x / 4294967296) := by omega
    rw [← Nat.mul_assoc, ← Nat.add_mul, ← h]
  rw [e, Nat.add_mul_div_left _ _ (by omega)]
  omega
set_option maxRecDepth 100000 in
theorem dwait_err (p : Po) (a : Int) (d : Nat) (w : World) (e : Int) (he : e ≠ 0) (hb : (baseOf p a).2 = e) : Calls Try.prog 14 #[p.v, .int .i64 a, .int .u32 d] w (TellsTwo 0 e w) := by
  have hne : (e == 0) = false := by simpa using he
  have HB := hide hb
  clear hb he
  go_enter Try.func14, Try.ntmps14
  go_wp2_with fail
  refine (dbase_any p a _).mono ?_
  rintro en w1 ⟨rfl, b1⟩
  rw [HB.out]
  generalize (baseOf p a).1 = b at *
  have B1 := hide (show Below w.heap.size w w1 from ((Below.refl _ w).alloc (Nat.le_refl _) _).trans (b1.mono (by simp)))
  clear b1
  go_wp2_with fail
  go_ret2
  exact ⟨rfl, B1.out⟩

set_option maxRecDepth 100000 in
set_option maxHeartbeats 1000000 in
theorem dwait_go (p : Po) (a : Int) (d : Nat) (hd : d < 4294967296) (w : World) (hr : Right p) (k : Nat) (hb : baseOf p a = (bas p k, 0)) (x : Nat) (hx : bas p k * p.spread / 1000 = x) :
    Calls Try.prog 14 #[p.v, .int .i64 a, .int .u32 d] w (TellsTwo (lessBy (bas p k) (x * d / 4294967296)) 0 w) := by
  have hbb := bas_bd p hr k
  have hc := hr.c2
  have hs1 := hr.s1
  have hs2 := hr.s2
  have hm : 0 ≤ bas p k * p.spread ∧ bas p k * p.spread ≤ 1099511627776000 := by
    refine ⟨Int.mul_nonneg (by omega) hs1, ?_⟩
    have := Int.mul_le_mul (show bas p k ≤ 1099511627776 by omega) hs2 hs1 (by omega)
    omega
  have HB := hide hb
  clear hb hr
  generalize bas p k = b at *
  generalize hq : b * p.spread = q at *
  have hxl : x ≤ 1099511627776 := by omega
  have hxi : (0 : Int) ≤ q / 1000 := by omega
  go_enter Try.func14, Try.ntmps14
  go_wp2_with fail
  refine (dbase_any p a _).mono ?_
  rintro en w1 ⟨rfl, b1⟩
  rw [HB.out]
  have c4 : w1.cell? ⟨w.heap.size, 4, none⟩ = some (.int .i64 p.spread) := (b1.cell (p := ⟨w.heap.size, 4, none⟩) (by simp)).trans (by simp [go_sem])
  have B1 := hide (show Below w.heap.size w w1 from ((Below.refl _ w).alloc (Nat.le_refl _) _).trans (b1.mono (by simp)))
  clear b1
  have hxd : x * d ≤ 4722366481770133585920 := by
    have := Nat.mul_le_mul (show x ≤ 1099511627776 by omega) (show d ≤ 4294967295 by omega)
    omega
  have b1 := Nat.mul_le_mul (show x / 4294967296 ≤ 256 by omega) (show d ≤ 4294967295 by omega)
  have b2 := Nat.mul_le_mul (show x % 4294967296 ≤ 4294967295 by omega) (show d ≤ 4294967295 by omega)
  have hh := halves x d
  obtain ⟨y1, hy1⟩ : ∃ y, y = x / 4294967296 * d := ⟨_, rfl⟩
  obtain ⟨y2, hy2⟩ : ∃ y, y = x % 4294967296 * d := ⟨_, rfl⟩
  obtain ⟨r, hr⟩ : ∃ r : Nat, r = x * d / 4294967296 := ⟨_, rfl⟩
  have e1 : (x : Int) / 4294967296 * (d : Int) = (y1 : Int) := by rw [hy1]; exact (Int.natCast_mul _ _).symm
  have e2 : (x : Int) % 4294967296 * (d : Int) = (y2 : Int) := by rw [hy2]; exact (Int.natCast_mul _ _).symm
  rw [← hy1, ← hy2, ← hr] at hh
  rw [← hy1] at b1
  rw [← hy2] at b2
  have e3 : (y1 : Int) + (y2 : Int) / 4294967296 = (r : Int) := by omega
  have hrl : r ≤ 1099511627776 := by omega
  have HRR := hide hr
  clear hy1 hy2 hr hh hxd
  by_cases hlt : b - (r : Int) < 1
  · have E := hide (show lessBy b r = 1 by unfold lessBy; rw [if_pos hlt])
    go_wp2_with fail
    go_ret2
    exact ⟨ret_two (by rw [← HRR.out, E.out]), B1.out⟩
  · have E := hide (show lessBy b r = b - (r : Int) by unfold lessBy; rw [if_neg hlt])
    go_wp2_with fail
    go_ret2
    exact ⟨ret_two (by rw [← HRR.out, E.out]), B1.out⟩
theorem dwait_any (p : Po) (a : Int) (d : Nat) (hd : d < 4294967296) (w : World) : Calls Try.prog 14 #[p.v, .int .i64 a, .int .u32 d] w (TellsTwo (waitOf p a d).1 (waitOf p a d).2 w) := by
  rcases base_cases p a with h | ⟨hr, _, _, h⟩
  · rw [waitOf_err p a d h]
    exact dwait_err p a d w _ h rfl
  · rw [waitOf_go p a d _ h]
    have hb := bas_bd p hr (a - 1).toNat
    have := hr.s1
    have hn : 0 ≤ bas p (a - 1).toNat * p.spread / 1000 := Int.ediv_nonneg (Int.mul_nonneg (by omega) this) (by omega)
    exact dwait_go p a d hd w hr _ h _ (by omega)
end Go.Proofs.Ytdgoofchadfepaa
