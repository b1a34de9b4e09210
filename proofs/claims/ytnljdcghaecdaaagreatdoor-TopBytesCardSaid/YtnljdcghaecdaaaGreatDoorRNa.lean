/-
  The rule of the names. (Printed by mkrule.py.)
-/
import Derived.Test.YtnljdcghaecdaaaGreatDoorRTy
/-
  The rule of the effects. (Printed by mkrule.py.)
-/
namespace Go.Proofs.YtnljdcghaecdaaaGreatDoor
open Go.RowKit Go.Lib Go.Maps
attribute [local go_sem] Oper.semAt_some

def effB (rs : List RecD) (m : MethD) : Bool := !bare0 (contraryS m.effect) && orderB rs m.arg
def effectsB (s : SchD) : Bool := s.vs.all fun x => x.ms.all (effB s.rs)
section
variable {W w : World} {fb : Nat} {ok : Bool} {ts : List Thing}
set_option maxRecDepth 100000 in
set_option maxHeartbeats 8000000 in
theorem effects_any (s : SchD) (h : SchAt W s) (g : GSch s) (L : Lie W.heap.size W w (flt fb ok :: ts)) : Calls Tryz.prog 79 #[schv s, .pointer (some ⟨fb, 0, none⟩)] w (RuleTo W fb ts (ok && effectsB s)) := by
  obtain ⟨Ar, nr, cr, Av, nv, cv, Ag, ng, cg, ev, HSR, HSV, HSG, HGR, HGV, HGG, hnr, hnv, hng⟩ := sch_in s h g
  have CO := hide (fun (z : ByteArray) (w' : World) (t : Turn (fun _ => False) W w') => order_any s z w' (h.on t) g)
  rw [ev] at CO ⊢
  obtain ⟨w1, r, SB, HW, HR, HSB, S1⟩ := lay (hide L) (.cells #[.string s.name, .slice Ar nr cr, .slice Av nv cv, .slice Ag ng cg] 26)
  have HO : Hid (effectsB s = (s.vs.all fun x => x.ms.all (effB s.rs))) := hide rfl
  generalize effectsB s = tB at *
  clear L h g ev
  go_enter Tryz.func79, Tryz.ntmps79
  go_wp2_with fail
  rw [← HW.out, ← HR.out]
  go_loopw [11] (fun sA wr => ∃ (k : Nat) (p : Bool), k ≤ nv ∧ sA = .int .i64 k ∧ Hid (p = (ok && (s.vs.take k).all (fun x => x.ms.all (effB s.rs)))) ∧ Hid (Lie W.heap.size W wr (SB :: flt fb p :: ts))) (fun sA _ => nv - (intOf sA).toNat)
  case atStart => exact ⟨0, ok, by omega, rfl, start_all _ _ _, S1⟩
  case round =>
    clear S1 HW
    obtain ⟨k0, q0, hk0, rfl, HP, HL⟩ := hrel
    by_cases hlt0 : k0 < nv
    · skip
      have hil : k0 < s.vs.length := by have := servs_len HSV; omega
      obtain ⟨x, b, o, Am, m, cm, HX, rfl, hb, d0, d1, HFA, HGF, hx2, hm4⟩ := serv_in HSV HGV (lie_turn HL) hil
      obtain ⟨w2, rx, RB, HW2, HR2, HRB, S2⟩ := lay HL (.cells #[.string x.name, .slice Am m cm] 83)
      have NP := fun (t : Bool) (hq : Hid (t = (q0 && x.ms.all (effB s.rs)))) => (show Hid (t = (ok && (s.vs.take (k0 + 1)).all (fun x => x.ms.all (effB s.rs)))) from hide (hq.out.trans (more_all HP hil HX rfl).out))
      have NPH := hide NP
      clear NP
      go_wp2_with fail
      rw [← HW2.out, ← HR2.out]
      clear d0 d1
      go_loopw [18] (fun sB wr => ∃ (j : Nat) (t : Bool), j ≤ m ∧ sB = .int .i64 j ∧ Hid (t = (q0 && (x.ms.take j).all (effB s.rs))) ∧ Hid (Lie W.heap.size W wr (RB :: SB :: flt fb t :: ts))) (fun sB _ => m - (intOf sB).toNat)
      case atStart => exact ⟨0, _, by omega, rfl, start_all _ _ _, S2⟩
      case round =>
        clear S2 HW2 HL HP
        obtain ⟨j, t, hj, rfl, HQ, HL⟩ := hrel
        by_cases hlj : j < m
        · skip
          have hjl : j < x.ms.length := by have := meths_len HFA; omega
          obtain ⟨y, b', o', HY, rfl, hb', g0, g1, g2, g3, g4, hy1, hy2, hy3, hy4⟩ := meth_in HFA HGF (lie_turn HL) hjl
          obtain ⟨w4, ry, FB, HW4, HR4, HFB, S4⟩ := lay HL (.cells #[.string y.name, .string y.arg, .int .u8 y.result, .string y.effect, .string y.undo] 85)
          have NQ : Hid (_ = _) := more_all HQ hjl HY rfl
          go_upto_region 7 with (fail)
          rw [← HW4.out, ← HR4.out]
          clear g0 g1 g2 g3 g4
          obtain ⟨y0, y1, y2, y3, y4⟩ := at5 S4 0 rfl HFB
          obtain ⟨x0, x1⟩ := at2 S4 1 rfl HRB
          obtain ⟨z0, z1, z2, z3⟩ := at4 S4 2 rfl HSB
          have HF : Hid (effB s.rs y = (!bare0 (contraryS y.effect) && orderB s.rs y.arg)) := hide rfl
          have CC := hide (contrary_any y.effect)
          have e1 := bare_eq (contraryS y.effect)
          generalize contraryS y.effect = ce at *
          cases hb0 : bare0 ce
          case' true =>
            rw [hb0] at e1
            have HF2 : Hid (effB s.rs y = false) := hide (by rw [HF.out, hb0]; rfl)
            clear hb0 HF
            have PC := hide (part_eq x.name y.name w4.drew (by omega) (by omega))
            generalize partS x.name y.name = pz at *
            go_still_tail 16, (by kernel_rfl)
            still_call (CC.out _)
            repeat still_step
            still_call (PC.out)
            repeat still_step
            refine wpStill_nil ?_
            change wpList _ _ _ _ _ w4.drew
            have S5 := hide S4.out.drew
            generalize w4.drew = w5 at *
            clear y0 y1 y2 y3 y4 x0 x1 z0 z1 z2 z3
            go_wp2_with fail
            refine (at_any _ _ _ (by unfold BadE; decide) 3 rfl S5.out).mono ?_
            rintro e w7 ⟨rfl, S7⟩
            rw [← HF2.out] at S7
          case' false =>
            rw [hb0] at e1
            have HF2 : Hid (effB s.rs y = orderB s.rs y.arg) := hide (by rw [HF.out, hb0]; rfl)
            clear hb0 HF
            go_region_held3 (fun W' => W'.cell? ⟨ry, 0, none⟩ = some (.string y.name) ∧ W'.cell? ⟨ry, 1, none⟩ = some (.string y.arg) ∧ W'.cell? ⟨ry, 3, none⟩ = some (.string y.effect) ∧ W'.cell? ⟨rx, 0, none⟩ = some (.string x.name) ∧ W'.cell? ⟨r, 0, none⟩ = some (.string s.name) ∧ W'.cell? ⟨r, 1, none⟩ = some (.slice Ar nr cr) ∧ W'.cell? ⟨r, 2, none⟩ = some (.slice (some ⟨b, o, none⟩) nv cv) ∧ W'.cell? ⟨r, 3, none⟩ = some (.slice Ag ng cg)) (go_keep) (first
              | (go_at_call 104; refine (CO.out _ _ (turn_of S4.out.drew)).mono ?_; rintro e w5 ⟨rfl, T5⟩; have S5 := hide (S4.out.drew.stay T5); obtain ⟨y0', y1', y2', y3', y4'⟩ := at5 S5 0 rfl HFB; obtain ⟨x0', x1'⟩ := at2 S5 1 rfl HRB; obtain ⟨z0', z1', z2', z3'⟩ := at4 S5 2 rfl HSB)
              | (go_at_call 103; refine (CC.out _).mono ?_; rintro e w6 ⟨rfl, rfl⟩)
              | (go_at_call 100; refine (part_any _ _ _ (by omega) (by omega)).mono ?_; rintro e w6 ⟨⟨pz, rfl⟩, rfl⟩)
              | (go_at_call 97; refine (at_any _ _ _ (by unfold BadE; decide) 3 rfl S5.out).mono ?_; rintro e w7 ⟨rfl, S7⟩; obtain ⟨y0', y1', y2', y3', y4'⟩ := at5 S7 0 rfl HFB; obtain ⟨x0', x1'⟩ := at2 S7 1 rfl HRB; obtain ⟨z0', z1', z2', z3'⟩ := at4 S7 2 rfl HSB))
            all_goals
              clear y0 y1 y2 y3 y4 x0 x1 z0 z1 z2 z3 y0' y1' y2' y3' y4' x0' x1' z0' z1' z2' z3'
              rw [← HF2.out] at S7
          all_goals
            go_wp2_with fail
            go_roundw
            case rel => exact ⟨j + 1, _, by omega, by go_num, NQ, hide (S7.out.erase 0)⟩
            case measure => simp [intOf]; omega
        · obtain rfl : j = m := by omega
          go_wp2_with fail
          go_roundw
          case rel => exact ⟨k0 + 1, _, by omega, by go_num, NPH.out _ (end_all HQ (meths_len HFA)), hide (HL.out.erase 0)⟩
          case measure => simp [intOf]; omega
    · obtain rfl : k0 = nv := by omega
      have HE0 := end_all HP (servs_len HSV)
      clear HP
      go_wp2_with fail
      first | refine bodyPost_ret (results_none rfl _ _ _) rfl ?_ | go_end0
      exact rule_to rfl (hide HL.out.pop) (by rw [HE0.out, HO.out])
end
end Go.Proofs.YtnljdcghaecdaaaGreatDoor
/-
  The rule of the sagas. (Printed by mkrule.py.)
-/
namespace Go.Proofs.YtnljdcghaecdaaaGreatDoor
open Go.RowKit Go.Lib Go.Maps
attribute [local go_sem] Oper.semAt_some

def sagasB (s : SchD) : Bool := s.gs.all fun x => orderB s.rs x.arg
section
variable {W w : World} {fb : Nat} {ok : Bool} {ts : List Thing}
set_option maxRecDepth 100000 in
set_option maxHeartbeats 8000000 in
theorem sagas_any (s : SchD) (h : SchAt W s) (g : GSch s) (L : Lie W.heap.size W w (flt fb ok :: ts)) : Calls Tryz.prog 81 #[schv s, .pointer (some ⟨fb, 0, none⟩)] w (RuleTo W fb ts (ok && sagasB s)) := by
  obtain ⟨Ar, nr, cr, Av, nv, cv, Ag, ng, cg, ev, HSR, HSV, HSG, HGR, HGV, HGG, hnr, hnv, hng⟩ := sch_in s h g
  have CO := hide (fun (z : ByteArray) (w' : World) (t : Turn (fun _ => False) W w') => order_any s z w' (h.on t) g)
  rw [ev] at CO ⊢
  obtain ⟨w1, r, SB, HW, HR, HSB, S1⟩ := lay (hide L) (.cells #[.string s.name, .slice Ar nr cr, .slice Av nv cv, .slice Ag ng cg] 26)
  have HO : Hid (sagasB s = (s.gs.all fun x => orderB s.rs x.arg)) := hide rfl
  generalize sagasB s = tB at *
  clear L h g ev
  go_enter Tryz.func81, Tryz.ntmps81
  go_wp2_with fail
  rw [← HW.out, ← HR.out]
  go_loopw [9] (fun sA wr => ∃ (k : Nat) (p : Bool), k ≤ ng ∧ sA = .int .i64 k ∧ Hid (p = (ok && (s.gs.take k).all (fun x => orderB s.rs x.arg))) ∧ Hid (Lie W.heap.size W wr (SB :: flt fb p :: ts))) (fun sA _ => ng - (intOf sA).toNat)
  case atStart => exact ⟨0, ok, by omega, rfl, start_all _ _ _, S1⟩
  case round =>
    clear S1 HW
    obtain ⟨k0, q0, hk0, rfl, HP, HL⟩ := hrel
    by_cases hlt0 : k0 < ng
    · skip
      have hil : k0 < s.gs.length := by have := sagas_len HSG; omega
      obtain ⟨x, b, o, Am, m, cm, HX, rfl, hb, d0, d1, d2, HFA, HGF, hx2, hx3, hm4⟩ := saga_in HSG HGG (lie_turn HL) hil
      obtain ⟨w2, rx, RB, HW2, HR2, HRB, S2⟩ := lay HL (.cells #[.string x.name, .string x.arg, .slice Am m cm] 88)
      go_upto_region 4 with (fail)
      rw [← HW2.out, ← HR2.out]
      clear d0 d1 d2
      obtain ⟨x0, x1, x2⟩ := at3 S2 0 rfl HRB
      obtain ⟨z0, z1, z2, z3⟩ := at4 S2 1 rfl HSB
      go_region_held3 (fun W' => W'.cell? ⟨rx, 0, none⟩ = some (.string x.name) ∧ W'.cell? ⟨rx, 1, none⟩ = some (.string x.arg) ∧ W'.cell? ⟨r, 0, none⟩ = some (.string s.name) ∧ W'.cell? ⟨r, 1, none⟩ = some (.slice Ar nr cr) ∧ W'.cell? ⟨r, 2, none⟩ = some (.slice Av nv cv) ∧ W'.cell? ⟨r, 3, none⟩ = some (.slice (some ⟨b, o, none⟩) ng cg)) (go_keep) (first
        | (go_at_call 104; refine (CO.out _ _ (turn_of S2.out.drew)).mono ?_; rintro e w5 ⟨rfl, T5⟩; have S5 := hide (S2.out.drew.stay T5); obtain ⟨x0', x1', x2'⟩ := at3 S5 0 rfl HRB; obtain ⟨z0', z1', z2', z3'⟩ := at4 S5 1 rfl HSB)
        | (go_at_call 97; refine (at_any _ _ _ (by unfold BadE; decide) 2 rfl S5.out).mono ?_; rintro e w7 ⟨rfl, S3⟩; obtain ⟨x0', x1', x2'⟩ := at3 S3 0 rfl HRB; obtain ⟨z0', z1', z2', z3'⟩ := at4 S3 1 rfl HSB))
      clear x0 x1 x2 z0 z1 z2 z3 x0' x1' x2' z0' z1' z2' z3'
      have NQ : Hid (_ = _) := more_all HP hil HX (rfl)
      all_goals
        go_wp2_with fail
        go_roundw
        case rel => exact ⟨k0 + 1, _, by omega, by go_num, NQ, hide (S3.out.erase 0)⟩
        case measure => simp [intOf]; omega
    · obtain rfl : k0 = ng := by omega
      have HE0 := end_all HP (sagas_len HSG)
      clear HP
      go_wp2_with fail
      first | refine bodyPost_ret (results_none rfl _ _ _) rfl ?_ | go_end0
      exact rule_to rfl (hide HL.out.pop) (by rw [HE0.out, HO.out])
end
end Go.Proofs.YtnljdcghaecdaaaGreatDoor
/-
  The rule of the ways. (Printed by mkrule.py.)
-/
namespace Go.Proofs.YtnljdcghaecdaaaGreatDoor
open Go.RowKit Go.Lib Go.Maps
attribute [local go_sem] Oper.semAt_some

def wayB (vs : List ServD) (n : Nat) (y : StepD × Nat) : Bool := (y.2 + 1 == n) || !bare0 ((findM vs y.1.srv y.1.mth).getD zeroM).undo
def waysB (s : SchD) : Bool := s.gs.all fun x => x.ss.zipIdx.all (wayB s.vs x.ss.length)
section
variable {W w : World} {fb : Nat} {ok : Bool} {ts : List Thing}
set_option maxRecDepth 100000 in
set_option maxHeartbeats 8000000 in
theorem ways_any (s : SchD) (h : SchAt W s) (g : GSch s) (L : Lie W.heap.size W w (flt fb ok :: ts)) : Calls Tryz.prog 83 #[schv s, .pointer (some ⟨fb, 0, none⟩)] w (RuleTo W fb ts (ok && waysB s)) := by
  obtain ⟨Ar, nr, cr, Av, nv, cv, Ag, ng, cg, ev, HSR, HSV, HSG, HGR, HGV, HGG, hnr, hnv, hng⟩ := sch_in s h g
  have CM := hide (fun (z z2 : ByteArray) (w' : World) (t : Turn (fun _ => False) W w') => method_any s z z2 w' (h.on t) g)
  rw [ev] at CM ⊢
  obtain ⟨w1, r, SB, HW, HR, HSB, S1⟩ := lay (hide L) (.cells #[.string s.name, .slice Ar nr cr, .slice Av nv cv, .slice Ag ng cg] 26)
  have HO : Hid (waysB s = (s.gs.all fun x => x.ss.zipIdx.all (wayB s.vs x.ss.length))) := hide rfl
  generalize waysB s = tB at *
  clear L h g ev
  go_enter Tryz.func83, Tryz.ntmps83
  go_wp2_with fail
  rw [← HW.out, ← HR.out]
  go_loopw [13] (fun sA wr => ∃ (k : Nat) (p : Bool), k ≤ ng ∧ sA = .int .i64 k ∧ Hid (p = (ok && (s.gs.take k).all (fun x => x.ss.zipIdx.all (wayB s.vs x.ss.length)))) ∧ Hid (Lie W.heap.size W wr (SB :: flt fb p :: ts))) (fun sA _ => ng - (intOf sA).toNat)
  case atStart => exact ⟨0, ok, by omega, rfl, start_all _ _ _, S1⟩
  case round =>
    clear S1 HW
    obtain ⟨k0, q0, hk0, rfl, HP, HL⟩ := hrel
    by_cases hlt0 : k0 < ng
    · skip
      have hil : k0 < s.gs.length := by have := sagas_len HSG; omega
      obtain ⟨x, b, o, Am, m, cm, HX, rfl, hb, d0, d1, d2, HFA, HGF, hx2, hx3, hm4⟩ := saga_in HSG HGG (lie_turn HL) hil
      obtain ⟨w2, rx, RB, HW2, HR2, HRB, S2⟩ := lay HL (.cells #[.string x.name, .string x.arg, .slice Am m cm] 88)
      have NP := fun (t : Bool) (hq : Hid (t = (q0 && x.ss.zipIdx.all (wayB s.vs x.ss.length)))) => (show Hid (t = (ok && (s.gs.take (k0 + 1)).all (fun x => x.ss.zipIdx.all (wayB s.vs x.ss.length)))) from hide (hq.out.trans (more_all HP hil HX rfl).out))
      have NPH := hide NP
      clear NP
      go_wp2_with fail
      rw [← HW2.out, ← HR2.out]
      clear d0 d1 d2
      go_loopw [20] (fun sB wr => ∃ (j : Nat) (t : Bool), j ≤ m ∧ sB = .int .i64 j ∧ Hid (t = (q0 && (x.ss.zipIdx.take j).all (wayB s.vs x.ss.length))) ∧ Hid (Lie W.heap.size W wr (RB :: SB :: flt fb t :: ts))) (fun sB _ => m - (intOf sB).toNat)
      case atStart => exact ⟨0, _, by omega, rfl, start_all _ _ _, S2⟩
      case round =>
        clear S2 HW2 HL HP
        obtain ⟨j, t, hj, rfl, HQ, HL⟩ := hrel
        by_cases hlj : j < m
        · skip
          have hjl : j < x.ss.length := by have := steps_len HFA; omega
          obtain ⟨y, b', o', HY, rfl, hb', g0, g1, g2, hy1, hy2⟩ := step_in HFA HGF (lie_turn HL) hjl
          obtain ⟨w4, ry, FB, HW4, HR4, HFB, S4⟩ := lay HL (.cells #[.string y.srv, .string y.mth, .int .i64 y.node] 90)
          have HYI : Hid ((y, j) = (x.ss.zipIdx)[j]'(by simpa using hjl)) := hide (by rw [HY.out]; simp)
          have NQ : Hid (_ = _) := more_all HQ (by simpa using hjl) HYI rfl
          go_upto_region 7 with (fail)
          rw [← HW4.out, ← HR4.out]
          clear g0 g1 g2
          obtain ⟨y0, y1, y2⟩ := at3 S4 0 rfl HFB
          obtain ⟨x0, x1, x2⟩ := at3 S4 1 rfl HRB
          obtain ⟨z0, z1, z2, z3⟩ := at4 S4 2 rfl HSB
          have HF : Hid (wayB s.vs x.ss.length (y, j) = ((j + 1 == x.ss.length) || !bare0 ((findM s.vs y.srv y.mth).getD zeroM).undo)) := hide rfl
          have HML := hide (steps_len HFA)
          have C1 := hide (CM.out y.srv y.mth w4 (lie_turn S4))
          unfold MethTo at C1
          generalize (findM s.vs y.srv y.mth).getD zeroM = u at *
          generalize (findM s.vs y.srv y.mth).isSome = has at *
          go_wp2_with fail
          refine C1.out.mono ?_
          rintro e w5 ⟨rfl, T5⟩
          have S5 := hide (S4.out.stay T5)
          obtain ⟨w6, ru, UB, HW6, HR6, HUB, S6⟩ := lay S5 (.cells #[.string u.name, .string u.arg, .int .u8 u.result, .string u.effect, .string u.undo] 85)
          clear y0 y1 y2 x0 x1 x2 z0 z1 z2 z3 C1 T5
          go_upto_region 8 with (fail)
          rw [← HW6.out, ← HR6.out]
          obtain ⟨u0, u1, u2, u3, u4⟩ := at5 S6 0 rfl HUB
          obtain ⟨y0, y1, y2⟩ := at3 S6 1 rfl HFB
          obtain ⟨x0, x1, x2⟩ := at3 S6 2 rfl HRB
          have NC := hide (nth_eq x.name j w6.drew (by omega) (by omega))
          generalize partS x.name ⟨(Lib.decDigits j).toArray⟩ = nz at *
          have e1 := bare_eq u.undo
          have S7' := hide S6.out.drew
          have hwr : IntKind.i64.wrap ((m : Int) - 1) = (m : Int) - 1 := IntWalk.i64_in _ (by omega)
          by_cases hlast : j + 1 = m
          case' pos =>
            have e2 : ((j : Int) == (m : Int) - 1) = true := by rw [beq_iff_eq]; omega
            have HF2 : Hid (wayB s.vs x.ss.length (y, j) = true) := hide (by rw [HF.out, ← HML.out]; simp [hlast])
          case' neg =>
            have e2 : ((j : Int) == (m : Int) - 1) = false := by rw [beq_eq_false_iff_ne]; omega
            have HF2 : Hid (wayB s.vs x.ss.length (y, j) = !bare0 u.undo) := hide (by rw [HF.out, ← HML.out]; simp [hlast])
          all_goals
            generalize bare0 u.undo = bu at *
            go_still_tail 16, (by kernel_rfl)
            still_call (NC.out)
            repeat still_step
            refine wpStill_nil ?_
            change wpList _ _ _ _ _ w6.drew
            generalize w6.drew = w7 at *
            clear y0 y1 y2 x0 x1 x2 u0 u1 u2 u3 u4
            go_wp2_with fail
            refine (at_any _ _ _ (by unfold BadE; decide) 4 rfl S7'.out).mono ?_
            rintro e w8 ⟨rfl, S7⟩
            rw [← HF2.out] at S7
          all_goals
            go_wp2_with fail
            go_roundw
            case rel => exact ⟨j + 1, _, by omega, by go_num, NQ, hide ((S7.out.erase 0).erase 0)⟩
            case measure => simp [intOf]; omega
        · obtain rfl : j = m := by omega
          go_wp2_with fail
          go_roundw
          case rel => exact ⟨k0 + 1, _, by omega, by go_num, NPH.out _ (end_all HQ ((steps_len HFA).trans (by simp))), hide (HL.out.erase 0)⟩
          case measure => simp [intOf]; omega
    · obtain rfl : k0 = ng := by omega
      have HE0 := end_all HP (sagas_len HSG)
      clear HP
      go_wp2_with fail
      first | refine bodyPost_ret (results_none rfl _ _ _) rfl ?_ | go_end0
      exact rule_to rfl (hide HL.out.pop) (by rw [HE0.out, HO.out])
end
end Go.Proofs.YtnljdcghaecdaaaGreatDoor
/-
  The rule of the counts. (Printed by mkrule.py.)
-/
namespace Go.Proofs.YtnljdcghaecdaaaGreatDoor
open Go.RowKit Go.Lib Go.Maps
attribute [local go_sem] Oper.semAt_some

def countsB (s : SchD) : Bool := decide (s.rs.length + s.vs.length + s.gs.length ≤ 64) && (s.rs.all fun x => decide (x.fs.length ≤ 16)) && (s.vs.all fun x => decide (x.ms.length ≤ 16)) && (s.gs.all fun x => decide (1 ≤ x.ss.length) && decide (x.ss.length ≤ 8))
section
variable {W w : World} {fb : Nat} {ok : Bool} {ts : List Thing}
set_option maxRecDepth 100000 in
set_option maxHeartbeats 8000000 in
theorem counts_any (s : SchD) (h : SchAt W s) (g : GSch s) (L : Lie W.heap.size W w (flt fb ok :: ts)) : Calls Tryz.prog 75 #[schv s, .pointer (some ⟨fb, 0, none⟩)] w (RuleTo W fb ts (ok && countsB s)) := by
  obtain ⟨Ar, nr, cr, Av, nv, cv, Ag, ng, cg, ev, HSR, HSV, HSG, HGR, HGV, HGG, hnr, hnv, hng⟩ := sch_in s h g
  rw [ev]
  obtain ⟨w1, r, SB, HW, HR, HSB, S1⟩ := lay (hide L) (.cells #[.string s.name, .slice Ar nr cr, .slice Av nv cv, .slice Ag ng cg] 26)
  have HO : Hid (countsB s = (decide (s.rs.length + s.vs.length + s.gs.length ≤ 64) && (s.rs.all fun x => decide (x.fs.length ≤ 16)) && (s.vs.all fun x => decide (x.ms.length ≤ 16)) && (s.gs.all fun x => decide (1 ≤ x.ss.length) && decide (x.ss.length ≤ 8)))) := hide rfl
  generalize countsB s = tB at *
  clear L h g ev
  have HLR := hide (recs_len HSR)
  have HLV := hide (servs_len HSV)
  have HLG := hide (sagas_len HSG)
  go_enter Tryz.func75, Tryz.ntmps75
  go_wp2_with fail
  rw [← HW.out, ← HR.out]
  refine (at_any _ _ _ (by unfold BadE; decide) 1 rfl S1.out).mono ?_
  rintro e w2 ⟨rfl, S0⟩
  have S0 := flt_to1 S0 (b' := ok && decide (s.rs.length + s.vs.length + s.gs.length ≤ 64)) (by rw [← HLR.out, ← HLV.out, ← HLG.out]; congr 1; rw [Bool.eq_iff_iff]; simp only [decide_eq_true_eq]; omega)
  obtain ⟨z0, z1, z2, z3⟩ := at4 S0 0 rfl HSB
  go_wp2_with fail
  clear z0 z1 z2 z3
  go_loopw [27] (fun sA wr => ∃ (k : Nat) (p : Bool), k ≤ nr ∧ sA = .int .i64 k ∧ Hid (p = ((ok && decide (s.rs.length + s.vs.length + s.gs.length ≤ 64)) && (s.rs.take k).all (fun x => decide (x.fs.length ≤ 16)))) ∧ Hid (Lie W.heap.size W wr (SB :: flt fb p :: ts))) (fun sA _ => nr - (intOf sA).toNat)
  case atStart => exact ⟨0, (ok && decide (s.rs.length + s.vs.length + s.gs.length ≤ 64)), by omega, rfl, start_all _ _ _, S0⟩
  case round =>
    clear S0 S1 HW
    obtain ⟨k0, q0, hk0, rfl, HP, HL⟩ := hrel
    by_cases hlt0 : k0 < nr
    · skip
      have hil : k0 < s.rs.length := by have := recs_len HSR; omega
      obtain ⟨x, b, o, Am, m, cm, HX, rfl, hb, d0, d1, d2, HFA, HGF, hx2, hm4⟩ := rec_in HSR HGR (lie_turn HL) hil
      obtain ⟨w2, rx, RB, HW2, HR2, HRB, S2⟩ := lay HL (.cells #[.string x.name, .bool x.choice, .slice Am m cm] 61)
      go_upto_region 5 with (fail)
      rw [← HW2.out, ← HR2.out]
      clear d0 d1 d2
      obtain ⟨x0, x1, x2⟩ := at3 S2 0 rfl HRB
      obtain ⟨z0, z1, z2, z3⟩ := at4 S2 1 rfl HSB
      have HLN := hide (fields_len HFA).symm
      go_wp2_with fail
      refine (at_any _ _ _ (by unfold BadE; decide) 2 rfl S2.out).mono ?_
      rintro e w7 ⟨rfl, S3⟩
      have S3 := flt_to2 S3 (b' := q0 && decide (x.fs.length ≤ 16)) (by rw [HLN.out]; congr 1; rw [Bool.eq_iff_iff]; simp only [decide_eq_true_eq]; omega)
      clear x0 x1 x2 z0 z1 z2 z3
      all_goals
        have NQ : Hid (_ = _) := more_all HP hil HX (rfl)
        go_wp2_with fail
        go_roundw
        case rel => exact ⟨k0 + 1, _, by omega, by go_num, NQ, hide (S3.out.erase 0)⟩
        case measure => simp [intOf]; omega
    · obtain rfl : k0 = nr := by omega
      have HE0 := end_all HP (recs_len HSR)
      clear HP
      obtain ⟨z0, z1, z2, z3⟩ := at4 HL 0 rfl HSB
      go_wp2_with fail
      clear z0 z1 z2 z3
      go_loopw [43] (fun sA wr => ∃ (k : Nat) (p : Bool), k ≤ nv ∧ sA = .int .i64 k ∧ Hid (p = (q0 && (s.vs.take k).all (fun x => decide (x.ms.length ≤ 16)))) ∧ Hid (Lie W.heap.size W wr (SB :: flt fb p :: ts))) (fun sA _ => nv - (intOf sA).toNat)
      case atStart => exact ⟨0, q0, by omega, rfl, start_all _ _ _, HL⟩
      case round =>
        clear HL
        obtain ⟨k1, q1, hk1, rfl, HP, HL⟩ := hrel
        by_cases hlt1 : k1 < nv
        · skip
          have hil : k1 < s.vs.length := by have := servs_len HSV; omega
          obtain ⟨x, b, o, Am, m, cm, HX, rfl, hb, d0, d1, HFA, HGF, hx2, hm4⟩ := serv_in HSV HGV (lie_turn HL) hil
          obtain ⟨w2, rx, RB, HW2, HR2, HRB, S2⟩ := lay HL (.cells #[.string x.name, .slice Am m cm] 83)
          go_upto_region 10 with (fail)
          rw [← HW2.out, ← HR2.out]
          clear d0 d1
          obtain ⟨x0, x1⟩ := at2 S2 0 rfl HRB
          obtain ⟨z0, z1, z2, z3⟩ := at4 S2 1 rfl HSB
          have HLN := hide (meths_len HFA).symm
          go_wp2_with fail
          refine (at_any _ _ _ (by unfold BadE; decide) 2 rfl S2.out).mono ?_
          rintro e w7 ⟨rfl, S3⟩
          have S3 := flt_to2 S3 (b' := q1 && decide (x.ms.length ≤ 16)) (by rw [HLN.out]; congr 1; rw [Bool.eq_iff_iff]; simp only [decide_eq_true_eq]; omega)
          clear x0 x1 z0 z1 z2 z3
          all_goals
            have NQ : Hid (_ = _) := more_all HP hil HX (rfl)
            go_wp2_with fail
            go_roundw
            case rel => exact ⟨k1 + 1, _, by omega, by go_num, NQ, hide (S3.out.erase 0)⟩
            case measure => simp [intOf]; omega
        · obtain rfl : k1 = nv := by omega
          have HE1 := end_all HP (servs_len HSV)
          clear HP
          obtain ⟨z0, z1, z2, z3⟩ := at4 HL 0 rfl HSB
          go_wp2_with fail
          clear z0 z1 z2 z3
          go_loopw [59] (fun sA wr => ∃ (k : Nat) (p : Bool), k ≤ ng ∧ sA = .int .i64 k ∧ Hid (p = (q1 && (s.gs.take k).all (fun x => decide (1 ≤ x.ss.length) && decide (x.ss.length ≤ 8)))) ∧ Hid (Lie W.heap.size W wr (SB :: flt fb p :: ts))) (fun sA _ => ng - (intOf sA).toNat)
          case atStart => exact ⟨0, q1, by omega, rfl, start_all _ _ _, HL⟩
          case round =>
            clear HL
            obtain ⟨k2, q2, hk2, rfl, HP, HL⟩ := hrel
            by_cases hlt2 : k2 < ng
            · skip
              have hil : k2 < s.gs.length := by have := sagas_len HSG; omega
              obtain ⟨x, b, o, Am, m, cm, HX, rfl, hb, d0, d1, d2, HFA, HGF, hx2, hx3, hm4⟩ := saga_in HSG HGG (lie_turn HL) hil
              obtain ⟨w2, rx, RB, HW2, HR2, HRB, S2⟩ := lay HL (.cells #[.string x.name, .string x.arg, .slice Am m cm] 88)
              go_upto_region 15 with (fail)
              rw [← HW2.out, ← HR2.out]
              clear d0 d1 d2
              obtain ⟨x0, x1, x2⟩ := at3 S2 0 rfl HRB
              obtain ⟨z0, z1, z2, z3⟩ := at4 S2 1 rfl HSB
              have HLN := hide (steps_len HFA).symm
              have h1b : decide (1 ≤ (m : Int)) = decide (1 ≤ m) := by rw [Bool.eq_iff_iff]; simp only [decide_eq_true_eq]; omega
              have H1B := hide h1b
              clear h1b
              by_cases h1 : 1 ≤ m
              all_goals
                go_wp2_with fail
                refine (at_any _ _ _ (by unfold BadE; decide) 2 rfl S2.out).mono ?_
                rintro e w7 ⟨rfl, S3⟩
                have S3 := flt_to2 S3 (b' := q2 && (decide (1 ≤ x.ss.length) && decide (x.ss.length ≤ 8))) (by rw [HLN.out]; congr 1; rw [Bool.eq_iff_iff]; simp [h1] <;> omega)
                clear x0 x1 x2 z0 z1 z2 z3
              all_goals
                have NQ : Hid (_ = _) := more_all HP hil HX (rfl)
                go_wp2_with fail
                go_roundw
                case rel => exact ⟨k2 + 1, _, by omega, by go_num, NQ, hide (S3.out.erase 0)⟩
                case measure => simp [intOf]; omega
            · obtain rfl : k2 = ng := by omega
              have HE2 := end_all HP (sagas_len HSG)
              clear HP
              go_wp2_with fail
              first | refine bodyPost_ret (results_none rfl _ _ _) rfl ?_ | go_end0
              exact rule_to rfl (hide HL.out.pop) (by rw [HE2.out, HE1.out, HE0.out, HO.out]; simp only [Bool.and_assoc])
end
end Go.Proofs.YtnljdcghaecdaaaGreatDoor
namespace Go.Proofs.YtnljdcghaecdaaaGreatDoor
open Go.RowKit Go.Lib Go.Maps
attribute [local go_sem] Oper.semAt_some

def namesB (s : SchD) : Bool := nameB s.name && (s.rs.all fun x => nameB x.name && x.fs.all fun y => nameB y.name) && (s.vs.all fun x => nameB x.name && x.ms.all fun y => nameB y.name) && (s.gs.all fun x => nameB x.name)
section
variable {W w : World} {fb : Nat} {ok : Bool} {ts : List Thing}
set_option maxRecDepth 100000 in
set_option maxHeartbeats 8000000 in
theorem names_any (s : SchD) (h : SchAt W s) (g : GSch s) (hk : Kw W) (L : Lie W.heap.size W w (flt fb ok :: ts)) : Calls Tryz.prog 74 #[schv s, .pointer (some ⟨fb, 0, none⟩)] w (RuleTo W fb ts (ok && namesB s)) := by
  obtain ⟨Ar, nr, cr, Av, nv, cv, Ag, ng, cg, ev, HSR, HSV, HSG, HGR, HGV, HGG, hnr, hnv, hng⟩ := sch_in s h g
  rw [ev]
  obtain ⟨w1, r, SB, HW, HR, HSB, S1⟩ := lay (hide L) (.cells #[.string s.name, .slice Ar nr cr, .slice Av nv cv, .slice Ag ng cg] 26)
  have HO : Hid (namesB s = (nameB s.name && (s.rs.all fun x => nameB x.name && x.fs.all fun y => nameB y.name) && (s.vs.all fun x => nameB x.name && x.ms.all fun y => nameB y.name) && (s.gs.all fun x => nameB x.name))) := hide rfl
  generalize namesB s = tB at *
  clear L h g ev
  have HK := hide hk
  clear hk
  obtain ⟨wp, rp, PB, HWP, HRP, HPB, SP⟩ := lay S1 (.cells #[.pointer (some ⟨fb, 0, none⟩)] 144)
  have HRP2 : Hid (rp = r + 1) := hide (by rw [HRP.out, HW.out, HR.out]; simp)
  go_enter Tryz.func74, Tryz.ntmps74
  go_upto_region 1 with (fail)
  rw [← HW.out, ← HWP.out, ← HR.out, ← HRP2.out]
  obtain ⟨z0, z1, z2, z3⟩ := at4 SP 1 rfl HSB
  have v0 := at1 SP 0 rfl HPB
  have CN := hide (name_any s.name wp.drew (kw_on HK (turn_of SP.out.drew)))
  go_region_held3 (fun W' => W'.cell? ⟨rp, 0, none⟩ = some (.pointer (some ⟨fb, 0, none⟩)) ∧ W'.cell? ⟨r, 0, none⟩ = some (.string s.name)) (go_keep) (first
    | (go_at_call 32; refine CN.out.mono ?_; rintro e w5 ⟨rfl, T5⟩; have S5 := hide (SP.out.drew.stay T5); have v1 := at1 S5 0 rfl HPB; obtain ⟨z0', z1', z2', z3'⟩ := at4 S5 1 rfl HSB)
    | (go_at_call 97; refine (at_any _ _ _ (by unfold BadE; decide) 2 rfl S5.out).mono ?_; rintro e w7 ⟨rfl, S0⟩; have v2 := at1 S0 0 rfl HPB; obtain ⟨z0', z1', z2', z3'⟩ := at4 S0 1 rfl HSB))
  have S0 : Hid (Lie W.heap.size W w7 (PB :: SB :: flt fb (ok && nameB s.name) :: ts)) := S0
  clear CN v0 v1 v2 z0 z1 z2 z3 z0' z1' z2' z3' S5 SP
  obtain ⟨z0, z1, z2, z3⟩ := at4 S0 1 rfl HSB
  go_wp2_with fail
  clear z0 z1 z2 z3
  go_loopw [24] (fun sA wr => ∃ (k : Nat) (p : Bool), k ≤ nr ∧ sA = .int .i64 k ∧ Hid (p = ((ok && nameB s.name) && (s.rs.take k).all (fun x => nameB x.name && x.fs.all fun y => nameB y.name))) ∧ Hid (Lie W.heap.size W wr (PB :: SB :: flt fb p :: ts))) (fun sA _ => nr - (intOf sA).toNat)
  case atStart => exact ⟨0, (ok && nameB s.name), by omega, rfl, start_all _ _ _, S0⟩
  case round =>
    clear S0 S1 HW HWP
    obtain ⟨k0, q0, hk0, rfl, HP, HL⟩ := hrel
    by_cases hlt0 : k0 < nr
    · skip
      have hil : k0 < s.rs.length := by have := recs_len HSR; omega
      obtain ⟨x, b, o, Am, m, cm, HX, rfl, hb, d0, d1, d2, HFA, HGF, hx2, hm4⟩ := rec_in HSR HGR (lie_turn HL) hil
      obtain ⟨w2, rx, RB, HW2, HR2, HRB, S2⟩ := lay HL (.cells #[.string x.name, .bool x.choice, .slice Am m cm] 61)
      go_upto_region 6 with (fail)
      rw [← HW2.out, ← HR2.out]
      clear d0 d1 d2
      obtain ⟨x0, x1, x2⟩ := at3 S2 0 rfl HRB
      obtain ⟨z0, z1, z2, z3⟩ := at4 S2 2 rfl HSB
      go_wp2_with fail
      refine (one_any _ HK 3 1 (by decide) rfl rfl HPB S2).mono ?_
      rintro e w7 ⟨rfl, S3⟩
      clear x0 x1 x2 z0 z1 z2 z3
      have NP := fun (t : Bool) (hq : Hid (t = ((q0 && nameB x.name) && x.fs.all (fun y => nameB y.name)))) => (show Hid (t = ((ok && nameB s.name) && (s.rs.take (k0 + 1)).all (fun x => nameB x.name && x.fs.all fun y => nameB y.name))) from hide (by rw [hq.out, Bool.and_assoc]; exact (more_all HP hil HX rfl).out))
      have NPH := hide NP
      clear NP
      obtain ⟨x0, x1, x2⟩ := at3 S3 0 rfl HRB
      go_wp2_with fail
      clear x0 x1 x2
      go_loopw [35] (fun sB wr => ∃ (j : Nat) (t : Bool), j ≤ m ∧ sB = .int .i64 j ∧ Hid (t = ((q0 && nameB x.name) && (x.fs.take j).all (fun y => nameB y.name))) ∧ Hid (Lie W.heap.size W wr (RB :: PB :: SB :: flt fb t :: ts))) (fun sB _ => m - (intOf sB).toNat)
      case atStart => exact ⟨0, _, by omega, rfl, start_all _ _ _, S3⟩
      case round =>
        clear S3 HW2 HL HP
        obtain ⟨j, t, hj, rfl, HQ, HL⟩ := hrel
        by_cases hlj : j < m
        · skip
          have hjl : j < x.fs.length := by have := fields_len HFA; omega
          obtain ⟨y, b', o', At, mt, ct, HY, rfl, hb', g0, g1, HTA, hy2, hyl⟩ := field_in HFA HGF (lie_turn HL) hjl
          obtain ⟨w4, ry, FB, HW4, HR4, HFB, S4⟩ := lay HL (.cells #[.string y.name, .slice At mt ct] 63)
          have NQ : Hid (_ = _) := more_all HQ hjl HY rfl
          go_upto_region 10 with (fail)
          rw [← HW4.out, ← HR4.out]
          clear g0 g1
          obtain ⟨y0, y1⟩ := at2 S4 0 rfl HFB
          obtain ⟨x0, x1, x2⟩ := at3 S4 1 rfl HRB
          obtain ⟨z0, z1, z2, z3⟩ := at4 S4 3 rfl HSB
          go_wp2_with fail
          refine (one_any _ HK 4 2 (by decide) rfl rfl HPB S4).mono ?_
          rintro e w7 ⟨rfl, S7⟩
          clear y0 y1 x0 x1 x2 z0 z1 z2 z3
          all_goals
            go_wp2_with fail
            go_roundw
            case rel => exact ⟨j + 1, _, by omega, by go_num, NQ, hide (S7.out.erase 0)⟩
            case measure => simp [intOf]; omega
        · obtain rfl : j = m := by omega
          go_wp2_with fail
          go_roundw
          case rel => exact ⟨k0 + 1, _, by omega, by go_num, NPH.out _ (end_all HQ (fields_len HFA)), hide (HL.out.erase 0)⟩
          case measure => simp [intOf]; omega
    · obtain rfl : k0 = nr := by omega
      have HE0 := end_all HP (recs_len HSR)
      clear HP
      obtain ⟨z0, z1, z2, z3⟩ := at4 HL 1 rfl HSB
      go_wp2_with fail
      clear z0 z1 z2 z3
      go_loopw [48] (fun sA wr => ∃ (k : Nat) (p : Bool), k ≤ nv ∧ sA = .int .i64 k ∧ Hid (p = (q0 && (s.vs.take k).all (fun x => nameB x.name && x.ms.all fun y => nameB y.name))) ∧ Hid (Lie W.heap.size W wr (PB :: SB :: flt fb p :: ts))) (fun sA _ => nv - (intOf sA).toNat)
      case atStart => exact ⟨0, q0, by omega, rfl, start_all _ _ _, HL⟩
      case round =>
        clear HL
        obtain ⟨k1, q1, hk1, rfl, HP, HL⟩ := hrel
        by_cases hlt1 : k1 < nv
        · skip
          have hil : k1 < s.vs.length := by have := servs_len HSV; omega
          obtain ⟨x, b, o, Am, m, cm, HX, rfl, hb, d0, d1, HFA, HGF, hx2, hm4⟩ := serv_in HSV HGV (lie_turn HL) hil
          obtain ⟨w2, rx, RB, HW2, HR2, HRB, S2⟩ := lay HL (.cells #[.string x.name, .slice Am m cm] 83)
          go_upto_region 16 with (fail)
          rw [← HW2.out, ← HR2.out]
          clear d0 d1
          obtain ⟨x0, x1⟩ := at2 S2 0 rfl HRB
          obtain ⟨z0, z1, z2, z3⟩ := at4 S2 2 rfl HSB
          go_wp2_with fail
          refine (one_any _ HK 3 1 (by decide) rfl rfl HPB S2).mono ?_
          rintro e w7 ⟨rfl, S3⟩
          clear x0 x1 z0 z1 z2 z3
          have NP := fun (t : Bool) (hq : Hid (t = ((q1 && nameB x.name) && x.ms.all (fun y => nameB y.name)))) => (show Hid (t = (q0 && (s.vs.take (k1 + 1)).all (fun x => nameB x.name && x.ms.all fun y => nameB y.name))) from hide (by rw [hq.out, Bool.and_assoc]; exact (more_all HP hil HX rfl).out))
          have NPH := hide NP
          clear NP
          obtain ⟨x0, x1⟩ := at2 S3 0 rfl HRB
          go_wp2_with fail
          clear x0 x1
          go_loopw [59] (fun sB wr => ∃ (j : Nat) (t : Bool), j ≤ m ∧ sB = .int .i64 j ∧ Hid (t = ((q1 && nameB x.name) && (x.ms.take j).all (fun y => nameB y.name))) ∧ Hid (Lie W.heap.size W wr (RB :: PB :: SB :: flt fb t :: ts))) (fun sB _ => m - (intOf sB).toNat)
          case atStart => exact ⟨0, _, by omega, rfl, start_all _ _ _, S3⟩
          case round =>
            clear S3 HW2 HL HP
            obtain ⟨j, t, hj, rfl, HQ, HL⟩ := hrel
            by_cases hlj : j < m
            · skip
              have hjl : j < x.ms.length := by have := meths_len HFA; omega
              obtain ⟨y, b', o', HY, rfl, hb', g0, g1, g2, g3, g4, hy1, hy2, hy3, hy4⟩ := meth_in HFA HGF (lie_turn HL) hjl
              obtain ⟨w4, ry, FB, HW4, HR4, HFB, S4⟩ := lay HL (.cells #[.string y.name, .string y.arg, .int .u8 y.result, .string y.effect, .string y.undo] 85)
              have NQ : Hid (_ = _) := more_all HQ hjl HY rfl
              go_upto_region 20 with (fail)
              rw [← HW4.out, ← HR4.out]
              clear g0 g1 g2 g3 g4
              obtain ⟨y0, y1, y2, y3, y4⟩ := at5 S4 0 rfl HFB
              obtain ⟨x0, x1⟩ := at2 S4 1 rfl HRB
              obtain ⟨z0, z1, z2, z3⟩ := at4 S4 3 rfl HSB
              go_wp2_with fail
              refine (one_any _ HK 4 2 (by decide) rfl rfl HPB S4).mono ?_
              rintro e w7 ⟨rfl, S7⟩
              clear y0 y1 y2 y3 y4 x0 x1 z0 z1 z2 z3
              all_goals
                go_wp2_with fail
                go_roundw
                case rel => exact ⟨j + 1, _, by omega, by go_num, NQ, hide (S7.out.erase 0)⟩
                case measure => simp [intOf]; omega
            · obtain rfl : j = m := by omega
              go_wp2_with fail
              go_roundw
              case rel => exact ⟨k1 + 1, _, by omega, by go_num, NPH.out _ (end_all HQ (meths_len HFA)), hide (HL.out.erase 0)⟩
              case measure => simp [intOf]; omega
        · obtain rfl : k1 = nv := by omega
          have HE1 := end_all HP (servs_len HSV)
          clear HP
          obtain ⟨z0, z1, z2, z3⟩ := at4 HL 1 rfl HSB
          go_wp2_with fail
          clear z0 z1 z2 z3
          go_loopw [72] (fun sA wr => ∃ (k : Nat) (p : Bool), k ≤ ng ∧ sA = .int .i64 k ∧ Hid (p = (q1 && (s.gs.take k).all (fun x => nameB x.name))) ∧ Hid (Lie W.heap.size W wr (PB :: SB :: flt fb p :: ts))) (fun sA _ => ng - (intOf sA).toNat)
          case atStart => exact ⟨0, q1, by omega, rfl, start_all _ _ _, HL⟩
          case round =>
            clear HL
            obtain ⟨k2, q2, hk2, rfl, HP, HL⟩ := hrel
            by_cases hlt2 : k2 < ng
            · skip
              have hil : k2 < s.gs.length := by have := sagas_len HSG; omega
              obtain ⟨x, b, o, Am, m, cm, HX, rfl, hb, d0, d1, d2, HFA, HGF, hx2, hx3, hm4⟩ := saga_in HSG HGG (lie_turn HL) hil
              obtain ⟨w2, rx, RB, HW2, HR2, HRB, S2⟩ := lay HL (.cells #[.string x.name, .string x.arg, .slice Am m cm] 88)
              go_upto_region 26 with (fail)
              rw [← HW2.out, ← HR2.out]
              clear d0 d1 d2
              obtain ⟨x0, x1, x2⟩ := at3 S2 0 rfl HRB
              obtain ⟨z0, z1, z2, z3⟩ := at4 S2 2 rfl HSB
              go_wp2_with fail
              refine (one_any _ HK 3 1 (by decide) rfl rfl HPB S2).mono ?_
              rintro e w7 ⟨rfl, S3⟩
              clear x0 x1 x2 z0 z1 z2 z3
              all_goals
                have NQ : Hid (_ = _) := more_all HP hil HX (rfl)
                go_wp2_with fail
                go_roundw
                case rel => exact ⟨k2 + 1, _, by omega, by go_num, NQ, hide (S3.out.erase 0)⟩
                case measure => simp [intOf]; omega
            · obtain rfl : k2 = ng := by omega
              have HE2 := end_all HP (sagas_len HSG)
              clear HP
              go_wp2_with fail
              first | refine bodyPost_ret (results_none rfl _ _ _) rfl ?_ | go_end0
              exact rule_to rfl (hide HL.out.pop.pop) (by rw [HE2.out, HE1.out, HE0.out, HO.out]; simp only [Bool.and_assoc])
end
end Go.Proofs.YtnljdcghaecdaaaGreatDoor
