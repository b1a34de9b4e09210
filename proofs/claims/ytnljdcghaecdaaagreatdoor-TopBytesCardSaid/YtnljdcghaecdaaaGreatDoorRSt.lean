/-
  The rule of the steps. (Printed by mkrule.py.)
-/
import Derived.Test.YtnljdcghaecdaaaGreatDoorRTy
/-
  The rule of the undos. (Printed by mkrule.py.)
-/
namespace Go.Proofs.YtnljdcghaecdaaaGreatDoor
open Go.RowKit Go.Lib Go.Maps
attribute [local go_sem] Oper.semAt_some

def undoB (vs : List ServD) (v : ByteArray) (y : MethD) : Bool := bare0 y.undo || ((findM vs v y.undo).isSome && decide (((findM vs v y.undo).getD zeroM).arg = y.arg) && bare0 ((findM vs v y.undo).getD zeroM).undo && (((findM vs v y.undo).getD zeroM).result == 1) && decide (((findM vs v y.undo).getD zeroM).effect = contraryS y.effect))
def undosB (s : SchD) : Bool := s.vs.all fun x => x.ms.all (undoB s.vs x.name)
section
variable {W w : World} {fb : Nat} {ok : Bool} {ts : List Thing}
set_option maxRecDepth 100000 in
set_option maxHeartbeats 8000000 in
theorem undos_any (s : SchD) (h : SchAt W s) (g : GSch s) (L : Lie W.heap.size W w (flt fb ok :: ts)) : Calls Tryz.prog 80 #[schv s, .pointer (some ⟨fb, 0, none⟩)] w (RuleTo W fb ts (ok && undosB s)) := by
  obtain ⟨Ar, nr, cr, Av, nv, cv, Ag, ng, cg, ev, HSR, HSV, HSG, HGR, HGV, HGG, hnr, hnv, hng⟩ := sch_in s h g
  have CM := hide (fun (z z2 : ByteArray) (w' : World) (t : Turn (fun _ => False) W w') => method_any s z z2 w' (h.on t) g)
  rw [ev] at CM ⊢
  obtain ⟨w1, r, SB, HW, HR, HSB, S1⟩ := lay (hide L) (.cells #[.string s.name, .slice Ar nr cr, .slice Av nv cv, .slice Ag ng cg] 26)
  have HO : Hid (undosB s = (s.vs.all fun x => x.ms.all (undoB s.vs x.name))) := hide rfl
  generalize undosB s = tB at *
  clear L h g ev
  go_enter Tryz.func80, Tryz.ntmps80
  go_wp2_with fail
  rw [← HW.out, ← HR.out]
  go_loopw [13] (fun sA wr => ∃ (k : Nat) (p : Bool), k ≤ nv ∧ sA = .int .i64 k ∧ Hid (p = (ok && (s.vs.take k).all (fun x => x.ms.all (undoB s.vs x.name)))) ∧ Hid (Lie W.heap.size W wr (SB :: flt fb p :: ts))) (fun sA _ => nv - (intOf sA).toNat)
  case atStart => exact ⟨0, ok, by omega, rfl, start_all _ _ _, S1⟩
  case round =>
    clear S1 HW
    obtain ⟨k0, q0, hk0, rfl, HP, HL⟩ := hrel
    by_cases hlt0 : k0 < nv
    · skip
      have hil : k0 < s.vs.length := by have := servs_len HSV; omega
      obtain ⟨x, b, o, Am, m, cm, HX, rfl, hb, d0, d1, HFA, HGF, hx2, hm4⟩ := serv_in HSV HGV (lie_turn HL) hil
      obtain ⟨w2, rx, RB, HW2, HR2, HRB, S2⟩ := lay HL (.cells #[.string x.name, .slice Am m cm] 83)
      have NP := fun (t : Bool) (hq : Hid (t = (q0 && x.ms.all (undoB s.vs x.name)))) => (show Hid (t = (ok && (s.vs.take (k0 + 1)).all (fun x => x.ms.all (undoB s.vs x.name)))) from hide (hq.out.trans (more_all HP hil HX rfl).out))
      have NPH := hide NP
      clear NP
      go_wp2_with fail
      rw [← HW2.out, ← HR2.out]
      clear d0 d1
      go_loopw [20] (fun sB wr => ∃ (j : Nat) (t : Bool), j ≤ m ∧ sB = .int .i64 j ∧ Hid (t = (q0 && (x.ms.take j).all (undoB s.vs x.name))) ∧ Hid (Lie W.heap.size W wr (RB :: SB :: flt fb t :: ts))) (fun sB _ => m - (intOf sB).toNat)
      case atStart => exact ⟨0, _, by omega, rfl, start_all _ _ _, S2⟩
      case round =>
        clear S2 HW2 HL HP
        obtain ⟨j, t, hj, rfl, HQ, HL⟩ := hrel
        by_cases hlj : j < m
        · skip
          have hjl : j < x.ms.length := by have := meths_len HFA; omega
          obtain ⟨y, b', o', HY, rfl, hb', g0, g1, g2, g3, g4, hy1, hy2, hy3, hy4⟩ := meth_in HFA HGF (lie_turn HL) hjl
          obtain ⟨w4, ry, FB, HW4, HR4, HFB, S4⟩ := lay HL (.cells #[.string y.name, .string y.arg, .int .u8 y.result, .string y.effect, .string y.undo] 85)
          have NQ : Hid (_ = _) := more_all HQ hjl HY rfl
          go_upto_region 7 with (fail)
          rw [← HW4.out, ← HR4.out]
          clear g0 g1 g2 g3 g4
          obtain ⟨y0, y1, y2, y3, y4⟩ := at5 S4 0 rfl HFB
          obtain ⟨x0, x1⟩ := at2 S4 1 rfl HRB
          obtain ⟨z0, z1, z2, z3⟩ := at4 S4 2 rfl HSB
          have HF : Hid (undoB s.vs x.name y = (bare0 y.undo || ((findM s.vs x.name y.undo).isSome && decide (((findM s.vs x.name y.undo).getD zeroM).arg = y.arg) && bare0 ((findM s.vs x.name y.undo).getD zeroM).undo && (((findM s.vs x.name y.undo).getD zeroM).result == 1) && decide (((findM s.vs x.name y.undo).getD zeroM).effect = contraryS y.effect)))) := hide rfl
          have C1 := hide (CM.out x.name y.undo w4 (lie_turn S4))
          unfold MethTo at C1
          generalize (findM s.vs x.name y.undo).getD zeroM = u at *
          generalize (findM s.vs x.name y.undo).isSome = has at *
          go_wp2_with fail
          refine C1.out.mono ?_
          rintro e w5 ⟨rfl, T5⟩
          have S5 := hide (S4.out.stay T5)
          obtain ⟨w6, ru, UB, HW6, HR6, HUB, S6⟩ := lay S5 (.cells #[.string u.name, .string u.arg, .int .u8 u.result, .string u.effect, .string u.undo] 85)
          clear y0 y1 y2 y3 y4 x0 x1 z0 z1 z2 z3 C1 T5
          go_upto_region 8 with (fail)
          rw [← HW6.out, ← HR6.out]
          obtain ⟨u0, u1, u2, u3, u4⟩ := at5 S6 0 rfl HUB
          obtain ⟨y0, y1, y2, y3, y4⟩ := at5 S6 1 rfl HFB
          obtain ⟨x0, x1⟩ := at2 S6 2 rfl HRB
          have CC := hide (fun w => contrary_any y.effect w)
          generalize contraryS y.effect = ce at *
          have PC := hide (fun w => part_eq x.name y.name w (by omega) (by omega))
          generalize partS x.name y.name = pz at *
          have e1 := str_eq u.arg y.arg
          have e2 := bare_eq u.undo
          have e3 := str_eq u.effect ce
          have e4 := bare_eq y.undo
          generalize decide (u.arg = y.arg) = d1 at *
          generalize bare0 u.undo = d2 at *
          generalize decide (u.effect = ce) = d3 at *
          generalize bare0 y.undo = d4 at *
          generalize u.result = ur at *
          have RES : ∀ ok3 : Bool, (has && d1 && d2 && (ur == 1) && d3) = ok3 → Hid (undoB s.vs x.name y = (d4 || ok3)) := fun ok3 h3 => hide (by rw [HF.out, h3])
          have HRES := hide RES
          clear RES HF
          have SP : has = false ∨ (has = true ∧ d1 = false) ∨ (has = true ∧ d1 = true ∧ d2 = false) ∨ (has = true ∧ d1 = true ∧ d2 = true ∧ ur ≠ 1) ∨ (has = true ∧ d1 = true ∧ d2 = true ∧ ur = 1) := by
            by_cases hu : ur = 1 <;> cases has <;> cases d1 <;> cases d2 <;> simp [hu]
          rcases SP with rfl | ⟨rfl, rfl⟩ | ⟨rfl, rfl, rfl⟩ | ⟨rfl, rfl, rfl, hr⟩ | ⟨rfl, rfl, rfl, rfl⟩
          all_goals
            have HF2 := HRES.out _ rfl
            try rw [beq_eq_false_iff_ne.2 hr] at HF2
            simp only [Bool.false_and, Bool.true_and, Bool.and_false, beq_self_eq_true] at HF2
          all_goals
            clear HRES
            go_quiet ((go_at_call 103; with_reducible exact Calls.quiet_of_same (CC.out _)))
            have S7' := hide (S6.out.drewN nq)
            generalize w6.drewN nq = w7 at *
            clear y0 y1 y2 y3 y4 x0 x1 u0 u1 u2 u3 u4
            obtain ⟨y0, y1, y2, y3, y4⟩ := at5 S7' 1 rfl HFB
            obtain ⟨x0, x1⟩ := at2 S7' 2 rfl HRB
            cases d4
            all_goals
              go_wp2_with fail
              refine (PC.out _).mono ?_
              rintro e w7b ⟨rfl, rfl⟩
              go_wp2_with fail
              refine (at_any _ _ _ (by unfold BadE; decide) 4 rfl S7'.out).mono ?_
              rintro e w8 ⟨rfl, S7⟩
              clear y0 y1 y2 y3 y4 x0 x1
              try simp only [Bool.true_or, Bool.false_or] at HF2
              rw [← HF2.out] at S7
          all_goals
            go_wp2_with fail
            go_roundw
            case rel => exact ⟨j + 1, _, by omega, by go_num, NQ, hide ((S7.out.erase 0).erase 0)⟩
            case measure => simp [intOf]; omega
        · obtain rfl : j = m := by omega
          go_wp2_with fail
          go_roundw
          case rel => exact ⟨k0 + 1, _, by omega, by go_num, NPH.out _ (end_all HQ (meths_len HFA)), hide (HL.out.erase 0)⟩
          case measure => simp [intOf]; omega
    · obtain rfl : k0 = nv := by omega
      have HE0 := end_all HP (servs_len HSV)
      clear HP
      go_wp2_with fail
      first | refine bodyPost_ret (results_none rfl _ _ _) rfl ?_ | go_end0
      exact rule_to rfl (hide HL.out.pop) (by rw [HE0.out, HO.out])
end
end Go.Proofs.YtnljdcghaecdaaaGreatDoor
namespace Go.Proofs.YtnljdcghaecdaaaGreatDoor
open Go.RowKit Go.Lib Go.Maps
attribute [local go_sem] Oper.semAt_some

def stepB (vs : List ServD) (arg : ByteArray) (y : StepD) : Bool := (findM vs y.srv y.mth).isSome && decide (((findM vs y.srv y.mth).getD zeroM).arg = arg) && decide (0 ≤ y.node) && decide (y.node < 4)
def stepsB (s : SchD) : Bool := s.gs.all fun x => x.ss.all (stepB s.vs x.arg)
section
variable {W w : World} {fb : Nat} {ok : Bool} {ts : List Thing}
set_option maxRecDepth 100000 in
set_option maxHeartbeats 8000000 in
theorem steps_any (s : SchD) (h : SchAt W s) (g : GSch s) (L : Lie W.heap.size W w (flt fb ok :: ts)) : Calls Tryz.prog 82 #[schv s, .pointer (some ⟨fb, 0, none⟩)] w (RuleTo W fb ts (ok && stepsB s)) := by
  obtain ⟨Ar, nr, cr, Av, nv, cv, Ag, ng, cg, ev, HSR, HSV, HSG, HGR, HGV, HGG, hnr, hnv, hng⟩ := sch_in s h g
  have CM := hide (fun (z z2 : ByteArray) (w' : World) (t : Turn (fun _ => False) W w') => method_any s z z2 w' (h.on t) g)
  rw [ev] at CM ⊢
  obtain ⟨w1, r, SB, HW, HR, HSB, S1⟩ := lay (hide L) (.cells #[.string s.name, .slice Ar nr cr, .slice Av nv cv, .slice Ag ng cg] 26)
  have HO : Hid (stepsB s = (s.gs.all fun x => x.ss.all (stepB s.vs x.arg))) := hide rfl
  generalize stepsB s = tB at *
  clear L h g ev
  go_enter Tryz.func82, Tryz.ntmps82
  go_wp2_with fail
  rw [← HW.out, ← HR.out]
  go_loopw [13] (fun sA wr => ∃ (k : Nat) (p : Bool), k ≤ ng ∧ sA = .int .i64 k ∧ Hid (p = (ok && (s.gs.take k).all (fun x => x.ss.all (stepB s.vs x.arg)))) ∧ Hid (Lie W.heap.size W wr (SB :: flt fb p :: ts))) (fun sA _ => ng - (intOf sA).toNat)
  case atStart => exact ⟨0, ok, by omega, rfl, start_all _ _ _, S1⟩
  case round =>
    clear S1 HW
    obtain ⟨k0, q0, hk0, rfl, HP, HL⟩ := hrel
    by_cases hlt0 : k0 < ng
    · skip
      have hil : k0 < s.gs.length := by have := sagas_len HSG; omega
      obtain ⟨x, b, o, Am, m, cm, HX, rfl, hb, d0, d1, d2, HFA, HGF, hx2, hx3, hm4⟩ := saga_in HSG HGG (lie_turn HL) hil
      obtain ⟨w2, rx, RB, HW2, HR2, HRB, S2⟩ := lay HL (.cells #[.string x.name, .string x.arg, .slice Am m cm] 88)
      have NP := fun (t : Bool) (hq : Hid (t = (q0 && x.ss.all (stepB s.vs x.arg)))) => (show Hid (t = (ok && (s.gs.take (k0 + 1)).all (fun x => x.ss.all (stepB s.vs x.arg)))) from hide (hq.out.trans (more_all HP hil HX rfl).out))
      have NPH := hide NP
      clear NP
      go_wp2_with fail
      rw [← HW2.out, ← HR2.out]
      clear d0 d1 d2
      go_loopw [20] (fun sB wr => ∃ (j : Nat) (t : Bool), j ≤ m ∧ sB = .int .i64 j ∧ Hid (t = (q0 && (x.ss.take j).all (stepB s.vs x.arg))) ∧ Hid (Lie W.heap.size W wr (RB :: SB :: flt fb t :: ts))) (fun sB _ => m - (intOf sB).toNat)
      case atStart => exact ⟨0, _, by omega, rfl, start_all _ _ _, S2⟩
      case round =>
        clear S2 HW2 HL HP
        obtain ⟨j, t, hj, rfl, HQ, HL⟩ := hrel
        by_cases hlj : j < m
        · skip
          have hjl : j < x.ss.length := by have := steps_len HFA; omega
          obtain ⟨y, b', o', HY, rfl, hb', g0, g1, g2, hy1, hy2⟩ := step_in HFA HGF (lie_turn HL) hjl
          obtain ⟨w4, ry, FB, HW4, HR4, HFB, S4⟩ := lay HL (.cells #[.string y.srv, .string y.mth, .int .i64 y.node] 90)
          have NQ : Hid (_ = _) := more_all HQ hjl HY rfl
          go_upto_region 7 with (fail)
          rw [← HW4.out, ← HR4.out]
          clear g0 g1 g2
          obtain ⟨y0, y1, y2⟩ := at3 S4 0 rfl HFB
          obtain ⟨x0, x1, x2⟩ := at3 S4 1 rfl HRB
          obtain ⟨z0, z1, z2, z3⟩ := at4 S4 2 rfl HSB
          have HF : Hid (stepB s.vs x.arg y = ((findM s.vs y.srv y.mth).isSome && decide (((findM s.vs y.srv y.mth).getD zeroM).arg = x.arg) && decide (0 ≤ y.node) && decide (y.node < 4))) := hide rfl
          have C1 := hide (CM.out y.srv y.mth w4 (lie_turn S4))
          unfold MethTo at C1
          generalize (findM s.vs y.srv y.mth).getD zeroM = u at *
          generalize (findM s.vs y.srv y.mth).isSome = has at *
          go_wp2_with fail
          refine C1.out.mono ?_
          rintro e w5 ⟨rfl, T5⟩
          have S5 := hide (S4.out.stay T5)
          obtain ⟨w6, ru, UB, HW6, HR6, HUB, S6⟩ := lay S5 (.cells #[.string u.name, .string u.arg, .int .u8 u.result, .string u.effect, .string u.undo] 85)
          clear y0 y1 y2 x0 x1 x2 z0 z1 z2 z3 C1 T5
          go_upto_region 8 with (fail)
          rw [← HW6.out, ← HR6.out]
          obtain ⟨u0, u1, u2, u3, u4⟩ := at5 S6 0 rfl HUB
          obtain ⟨y0, y1, y2⟩ := at3 S6 1 rfl HFB
          obtain ⟨x0, x1, x2⟩ := at3 S6 2 rfl HRB
          have NC := hide (nth_eq x.name j w6.drew (by omega) (by omega))
          generalize partS x.name ⟨(Lib.decDigits j).toArray⟩ = nz at *
          have e1 := str_eq u.arg x.arg
          have S7' := hide S6.out.drew
          generalize y.node = yn at *
          generalize hd : decide (u.arg = x.arg) = da at *
          clear hd
          cases has
          case' true =>
            cases da
            case' true =>
              by_cases hn0 : 0 ≤ yn
              case' pos =>
                have HF2 : Hid (stepB s.vs x.arg y = decide (yn < 4)) := hide (by rw [HF.out]; simp [hn0])
              case' neg =>
                have HF2 : Hid (stepB s.vs x.arg y = false) := hide (by rw [HF.out]; simp [hn0])
            case' false =>
              have HF2 : Hid (stepB s.vs x.arg y = false) := hide (by rw [HF.out]; simp)
          case' false =>
            have HF2 : Hid (stepB s.vs x.arg y = false) := hide (by rw [HF.out]; simp)
          all_goals
            go_still_tail 23, (by kernel_rfl)
            still_call (NC.out)
            repeat still_step
            refine wpStill_nil ?_
            change wpList _ _ _ _ _ w6.drew
            generalize w6.drew = w7 at *
            clear y0 y1 y2 x0 x1 x2 u0 u1 u2 u3 u4
            go_wp2_with fail
            refine (at_any _ _ _ (by unfold BadE; decide) 4 rfl S7'.out).mono ?_
            rintro e w8 ⟨rfl, S7⟩
            rw [← HF2.out] at S7
          all_goals
            go_wp2_with fail
            go_roundw
            case rel => exact ⟨j + 1, _, by omega, by go_num, NQ, hide ((S7.out.erase 0).erase 0)⟩
            case measure => simp [intOf]; omega
        · obtain rfl : j = m := by omega
          go_wp2_with fail
          go_roundw
          case rel => exact ⟨k0 + 1, _, by omega, by go_num, NPH.out _ (end_all HQ (steps_len HFA)), hide (HL.out.erase 0)⟩
          case measure => simp [intOf]; omega
    · obtain rfl : k0 = ng := by omega
      have HE0 := end_all HP (sagas_len HSG)
      clear HP
      go_wp2_with fail
      first | refine bodyPost_ret (results_none rfl _ _ _) rfl ?_ | go_end0
      exact rule_to rfl (hide HL.out.pop) (by rw [HE0.out, HO.out])
end
end Go.Proofs.YtnljdcghaecdaaaGreatDoor
