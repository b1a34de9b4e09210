/-
  The rule of the types.
-/
import Derived.Test.YtnljdcghaecdaaaGreatDoorRul
namespace Go.Proofs.YtnljdcghaecdaaaGreatDoor
open Go.RowKit Go.Lib Go.Maps
attribute [local go_sem] Oper.semAt_some

def methT (m : MethD) : Bool := m.result == 3 || m.result == 1
def typesB (s : SchD) : Bool := s.rs.all (fun r => r.fs.all fun f => rightB s.rs f.ts) && s.vs.all (fun v => v.ms.all methT)
section
variable {W w : World} {fb : Nat} {ok : Bool} {ts : List Thing}
set_option maxRecDepth 100000 in
set_option maxHeartbeats 8000000 in
theorem types_any (s : SchD) (h : SchAt W s) (g : GSch s) (L : Lie W.heap.size W w (flt fb ok :: ts)) : Calls Tryz.prog 77 #[schv s, .pointer (some ⟨fb, 0, none⟩)] w (RuleTo W fb ts (ok && typesB s)) := by
  obtain ⟨Ar, nr, cr, Av, nv, cv, Ag, ng, cg, ev, HSR, HSV, HSG, HGR, HGV, HGG, hnr, hnv, hng⟩ := sch_in s h g
  have CR := hide (fun (tv : Value) (xs : List SortD) (w' : World) (t : Turn (fun _ => False) W w') (ht : SortsAt W tv xs) (hp : xs.length ≤ 1000) => rightT_any s tv xs w' (h.on t) g (ht.on t) hp)
  rw [ev] at CR ⊢
  obtain ⟨w1, r, SB, HW, HR, HSB, S1⟩ := lay (hide L) (.cells #[.string s.name, .slice Ar nr cr, .slice Av nv cv, .slice Ag ng cg] 26)
  have HO : Hid (typesB s = (s.rs.all (fun r => r.fs.all fun f => rightB s.rs f.ts) && s.vs.all (fun v => v.ms.all methT))) := hide rfl
  generalize typesB s = tB at *
  clear L h g ev
  go_enter Tryz.func77, Tryz.ntmps77
  go_wp2_with fail
  rw [← HW.out, ← HR.out]
  go_loopw [15] (fun s15 wr => ∃ (k : Nat) (p : Bool), k ≤ nr ∧ s15 = .int .i64 k ∧ Hid (p = (ok && (s.rs.take k).all fun r => r.fs.all fun f => rightB s.rs f.ts)) ∧ Hid (Lie W.heap.size W wr (SB :: flt fb p :: ts))) (fun s15 _ => nr - (intOf s15).toNat)
  case atStart => exact ⟨0, ok, by omega, rfl, start_all _ _ _, S1⟩
  case round =>
    clear S1 HW
    obtain ⟨k, p, hk, rfl, HP, HL⟩ := hrel
    by_cases hlt : k < nr
    · have hil : k < s.rs.length := by have := recs_len HSR; omega
      obtain ⟨x, b, o, Am, m, cm, HX, rfl, hb, d0, d1, d2, HFA, HGF, hx2, hm4⟩ := rec_in HSR HGR (lie_turn HL) hil
      have NP := fun (q : Bool) (hq : Hid (q = (p && x.fs.all fun f => rightB s.rs f.ts))) => (show Hid (q = (ok && (s.rs.take (k + 1)).all fun r => r.fs.all fun f => rightB s.rs f.ts)) from hide (hq.out.trans (more_all HP hil HX rfl).out))
      have NPH := hide NP
      clear NP
      obtain ⟨w2, r5, RB, HW2, HR2, HRB, S2⟩ := lay HL (.cells #[.string x.name, .bool x.choice, .slice Am m cm] 61)
      go_wp2_with fail
      rw [← HW2.out, ← HR2.out]
      clear d0 d1 d2
      go_loopw [22] (fun s22 wr => ∃ (j : Nat) (q : Bool), j ≤ m ∧ s22 = .int .i64 j ∧ Hid (q = (p && (x.fs.take j).all fun f => rightB s.rs f.ts)) ∧ Hid (Lie W.heap.size W wr (RB :: SB :: flt fb q :: ts))) (fun s22 _ => m - (intOf s22).toNat)
      case atStart => exact ⟨0, p, by omega, rfl, start_all _ _ _, S2⟩
      case round =>
        clear S2 HW2 HL HP
        obtain ⟨j, q, hj, rfl, HQ, HL⟩ := hrel
        by_cases hlj : j < m
        · have hjl : j < x.fs.length := by have := fields_len HFA; omega
          obtain ⟨y, b', o', At, mt, ct, HY, rfl, hb', g0, g1, HTA, hy2, hyl⟩ := field_in HFA HGF (lie_turn HL) hjl
          have NQ := more_all HQ hjl HY rfl
          obtain ⟨w4, r7, FB, HW4, HR4, HFB, S4⟩ := lay HL (.cells #[.string y.name, .slice At mt ct] 63)
          go_upto_region 7 with (fail)
          rw [← HW4.out, ← HR4.out]
          clear g0 g1
          obtain ⟨y0, y1⟩ := at2 S4 0 rfl HFB
          obtain ⟨x0, x1, x2⟩ := at3 S4 1 rfl HRB
          obtain ⟨z0, z1, z2, z3⟩ := at4 S4 2 rfl HSB
          go_region_held3 (fun W' => W'.cell? ⟨r7, 0, none⟩ = some (.string y.name) ∧ W'.cell? ⟨r7, 1, none⟩ = some (.slice At mt ct) ∧ W'.cell? ⟨r5, 0, none⟩ = some (.string x.name) ∧ W'.cell? ⟨r, 0, none⟩ = some (.string s.name) ∧ W'.cell? ⟨r, 1, none⟩ = some (.slice (some ⟨b, o, none⟩) nr cr) ∧ W'.cell? ⟨r, 2, none⟩ = some (.slice Av nv cv) ∧ W'.cell? ⟨r, 3, none⟩ = some (.slice Ag ng cg)) (go_keep) (first
            | (go_at_call 101; refine (CR.out _ y.ts _ (turn_of S4.out.drew) HTA.out (by omega)).mono ?_; rintro e w5 ⟨rfl, T5⟩; have S5 := hide (S4.out.drew.stay T5); obtain ⟨y0', y1'⟩ := at2 S5 0 rfl HFB; obtain ⟨x0', x1', x2'⟩ := at3 S5 1 rfl HRB; obtain ⟨z0', z1', z2', z3'⟩ := at4 S5 2 rfl HSB)
            | (go_at_call 100; refine (part_any _ _ _ (by omega) (by omega)).mono ?_; rintro e w6 ⟨⟨pz, rfl⟩, rfl⟩)
            | (go_at_call 97; refine (at_any _ _ _ (by unfold BadE; decide) 3 rfl S5.out).mono ?_; rintro e w7 ⟨rfl, S7⟩; obtain ⟨y0', y1'⟩ := at2 S7 0 rfl HFB; obtain ⟨x0', x1', x2'⟩ := at3 S7 1 rfl HRB; obtain ⟨z0', z1', z2', z3'⟩ := at4 S7 2 rfl HSB))
          all_goals
            clear y0 y1 x0 x1 x2 z0 z1 z2 z3 y0' y1' x0' x1' x2' z0' z1' z2' z3'
            go_wp2_with fail
            go_roundw
            case rel => exact ⟨j + 1, _, by omega, by go_num, NQ, hide (S7.out.erase 0)⟩
            case measure => simp [intOf]; omega
        · obtain rfl : j = m := by omega
          go_wp2_with fail
          go_roundw
          case rel => exact ⟨k + 1, _, by omega, by go_num, NPH.out _ (end_all HQ (fields_len HFA)), hide (HL.out.erase 0)⟩
          case measure => simp [intOf]; omega
    · obtain rfl : k = nr := by omega
      have HE1 := end_all HP (recs_len HSR)
      obtain ⟨z0, z1, z2, z3⟩ := at4 HL 0 rfl HSB
      clear HP
      go_wp2_with fail
      clear z0 z1 z2 z3
      go_loopw [42] (fun s42 wx => ∃ (k2 : Nat) (q : Bool), k2 ≤ nv ∧ s42 = .int .i64 k2 ∧ Hid (q = (p && (s.vs.take k2).all fun v => v.ms.all methT)) ∧ Hid (Lie W.heap.size W wx (SB :: flt fb q :: ts))) (fun s42 _ => nv - (intOf s42).toNat)
      case atStart => exact ⟨0, p, by omega, rfl, start_all _ _ _, HL⟩
      case round =>
        clear HL
        obtain ⟨k2, q, hk2, rfl, HP, HL⟩ := hrel
        by_cases hlt2 : k2 < nv
        · have hil : k2 < s.vs.length := by have := servs_len HSV; omega
          obtain ⟨x, b, o, Am, m, cm, HX, rfl, hb, d0, d1, HFA, HGF, hx2, hm4⟩ := serv_in HSV HGV (lie_turn HL) hil
          have NP := fun (t : Bool) (hq : Hid (t = (q && x.ms.all methT))) => (show Hid (t = (p && (s.vs.take (k2 + 1)).all fun v => v.ms.all methT)) from hide (hq.out.trans (more_all HP hil HX rfl).out))
          have NPH := hide NP
          clear NP
          obtain ⟨w2, r9, RB, HW2, HR2, HRB, S2⟩ := lay HL (.cells #[.string x.name, .slice Am m cm] 83)
          go_wp2_with fail
          rw [← HW2.out, ← HR2.out]
          clear d0 d1
          go_loopw [49] (fun s49 wr => ∃ (j : Nat) (t : Bool), j ≤ m ∧ s49 = .int .i64 j ∧ Hid (t = (q && (x.ms.take j).all methT)) ∧ Hid (Lie W.heap.size W wr (RB :: SB :: flt fb t :: ts))) (fun s49 _ => m - (intOf s49).toNat)
          case atStart => exact ⟨0, q, by omega, rfl, start_all _ _ _, S2⟩
          case round =>
            clear S2 HW2 HL HP
            obtain ⟨j, t, hj, rfl, HQ, HL⟩ := hrel
            by_cases hlj : j < m
            · have hjl : j < x.ms.length := by have := meths_len HFA; omega
              obtain ⟨y, b', o', HY, rfl, hb', g0, g1, g2, g3, g4, hy1, hy2, hy3, hy4⟩ := meth_in HFA HGF (lie_turn HL) hjl
              have HMT : Hid (methT y = (y.result == 3 || y.result == 1)) := hide rfl
              have NQ := more_all HQ hjl HY rfl
              obtain ⟨w4, r11, FB, HW4, HR4, HFB, S4⟩ := lay HL (.cells #[.string y.name, .string y.arg, .int .u8 y.result, .string y.effect, .string y.undo] 85)
              go_upto_region 16 with (fail)
              rw [← HW4.out, ← HR4.out]
              clear g0 g1 g2 g3 g4
              obtain ⟨y0, y1, y2, y3, y4⟩ := at5 S4 0 rfl HFB
              obtain ⟨x0, x1⟩ := at2 S4 1 rfl HRB
              generalize y.result = yr at *
              have PC := hide (part_eq x.name y.name w4.drew (by omega) (by omega))
              generalize partS x.name y.name = pz at *
              have S5 := hide S4.out.drew
              by_cases h3 : yr = 3
              all_goals
                try subst h3
                go_still_tail 14, (by kernel_rfl)
                still_call (PC.out)
                repeat still_step
                refine wpStill_nil ?_
                change wpList _ _ _ _ _ w4.drew
                generalize w4.drew = w5 at *
                clear y0 y1 y2 y3 y4 x0 x1
                go_wp2_with fail
                refine (at_any _ _ _ (by unfold BadE; decide) 3 rfl S5.out).mono ?_
                rintro e w7 ⟨rfl, S7⟩
                go_wp2_with fail
                go_roundw
                case rel => exact ⟨j + 1, _, by omega, by go_num, by rw [HMT.out] at NQ; first | (rw [beq_eq_false_iff_ne.2 h3] at NQ; exact NQ) | exact NQ, hide (S7.out.erase 0)⟩
                case measure => simp [intOf]; omega
            · obtain rfl : j = m := by omega
              go_wp2_with fail
              go_roundw
              case rel => exact ⟨k2 + 1, _, by omega, by go_num, NPH.out _ (end_all HQ (meths_len HFA)), hide (HL.out.erase 0)⟩
              case measure => simp [intOf]; omega
        · obtain rfl : k2 = nv := by omega
          have HE2 := end_all HP (servs_len HSV)
          go_wp2_with fail
          first | refine bodyPost_ret (results_none rfl _ _ _) rfl ?_ | go_end0
          exact rule_to rfl (hide HL.out.pop) (by rw [HE2.out, HE1.out, HO.out, Bool.and_assoc])
end
end Go.Proofs.YtnljdcghaecdaaaGreatDoor
