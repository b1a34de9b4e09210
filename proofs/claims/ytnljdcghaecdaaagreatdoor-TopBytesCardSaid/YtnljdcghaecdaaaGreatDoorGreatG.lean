/-
  Sagas that are great.
-/
import Derived.Test.YtnljdcghaecdaaaGreatDoorGreat
namespace Go.Proofs.YtnljdcghaecdaaaGreatDoor
open Go.RowKit Go.Lib
attribute [local go_sem] Oper.semAt_some

set_option maxRecDepth 100000 in
set_option maxHeartbeats 4000000 in
theorem great_gs (s : SchD) (w : World) (h : SchAt w s) (hn : s.gs.length ≤ 100) : Calls Tryz.prog 23 #[schv s] w (NoB (∀ v ∈ s.gs, GSaga v) w) := by
  have H := hide h.gs
  obtain ⟨name, rs, rv, vs, vv, gs, gv⟩ := s
  simp only at H hn
  obtain ⟨Ar, cr, e1⟩ := h.rs.1.shape
  obtain ⟨Av, cv, e2⟩ := h.vs.1.shape
  obtain ⟨Ag, cg, e3⟩ := h.gs.1.shape
  simp only at e1 e2 e3
  subst e1 e2 e3
  obtain ⟨n, hnn⟩ : ∃ n, n = gs.length := ⟨_, rfl⟩
  have HN := hide hnn
  rw [← hnn] at hn
  obtain ⟨nr, hnr⟩ : ∃ n, n = rs.length := ⟨_, rfl⟩
  obtain ⟨nv, hng⟩ : ∃ n, n = vs.length := ⟨_, rfl⟩
  clear h
  unfold schv
  simp only
  rw [← hnn, ← hnr, ← hng]
  obtain ⟨w1, hw1⟩ : ∃ w1, w1 = w.alloc (.cells #[.string name, .slice Ar nr cr, .slice Av nv cv, .slice Ag n cg] 26) := ⟨_, rfl⟩
  obtain ⟨r, hr⟩ : ∃ r, r = w.heap.size := ⟨_, rfl⟩
  have S1 : Hid (Lie w.heap.size w w1 [box r (.cells #[.string name, .slice Ar nr cr, .slice Av nv cv, .slice Ag n cg] 26 (0, 0))]) := hide (by rw [hw1, hr]; exact (Lie.start w).alloc _)
  have HW := hide hw1
  have HR := hide hr
  clear hw1 hr hnn hnr hng
  go_enter Tryz.func23, Tryz.ntmps23
  go_wp2_with fail
  rw [← HW.out, ← HR.out]
  go_loopw [3] (fun s3 wr => ∃ k : Nat, k ≤ n ∧ s3 = .int .i64 k ∧ Hid (Lie w.heap.size w wr [box r (.cells #[.string name, .slice Ar nr cr, .slice Av nv cv, .slice Ag n cg] 26 (0, 0))]) ∧ Hid (∀ t (ht : t < gs.length), t < k → GSaga gs[t])) (fun s3 _ => n - (intOf s3).toNat)
  case atStart => exact ⟨0, by omega, rfl, S1, hide (fun t _ h => by omega)⟩
  case round =>
    clear S1 HW
    obtain ⟨k, hk, rfl, HL, HI⟩ := hrel
    obtain ⟨c0, c1, c2, c3⟩ := cell4 (HL.out.get 0 rfl)
    by_cases hlt : k < n
    · have hil : k < gs.length := by have := HN.out; omega
      obtain ⟨b, o, rfl, hb, hnv, hc⟩ := saga_at (A := Ag) (c := cg) (n := gs.length) gs (H.out.on (turn_of HL.out)) (by omega)
      obtain ⟨d0, d1, d2⟩ := hc k hil
      clear hc hnv
      have HM := hide (H.out.2 gs[k] (List.getElem_mem hil))
      obtain ⟨⟨gn, ga, ss, sv⟩, hv⟩ : ∃ v, v = gs[k] := ⟨_, rfl⟩
      have HV := hide hv
      rw [← hv] at d0 d1 d2 HM
      clear hv
      simp only at d0 d1 d2 HM
      obtain ⟨Am, cm, rfl⟩ := HM.out.shape
      obtain ⟨m, hmm⟩ : ∃ m, m = ss.length := ⟨_, rfl⟩
      have HMM := hide hmm
      rw [← hmm] at d2
      clear hmm
      obtain ⟨w2, hw2⟩ : ∃ w2, w2 = wr.alloc (.cells #[.string gn, .string ga, .slice Am m cm] 88) := ⟨_, rfl⟩
      obtain ⟨r2, hr2⟩ : ∃ r2, r2 = wr.heap.size := ⟨_, rfl⟩
      have S2 : Hid (Lie w.heap.size w w2 [box r2 (.cells #[.string gn, .string ga, .slice Am m cm] 88 (0, 0)), box r (.cells #[.string name, .slice Ar nr cr, .slice Av nv cv, .slice (some ⟨b, o, none⟩) n cg] 26 (0, 0))]) := hide (by rw [hw2, hr2]; exact HL.out.alloc _)
      have HW2 := hide hw2
      have HR2 := hide hr2
      clear hw2 hr2 c0 c1 c2
      by_cases hv2 : gn.size ≤ 200
      · by_cases hv3 : ga.size ≤ 200
        · by_cases hm4 : m ≤ 40
          · go_wp2_with fail
            rw [← HW2.out, ← HR2.out]
            clear c3 d0 d1 d2
            go_loopw [5] (fun s5 wr => ∃ j : Nat, j ≤ m ∧ s5 = .int .i64 j ∧ Hid (Lie w.heap.size w wr [box r2 (.cells #[.string gn, .string ga, .slice Am m cm] 88 (0, 0)), box r (.cells #[.string name, .slice Ar nr cr, .slice Av nv cv, .slice (some ⟨b, o, none⟩) n cg] 26 (0, 0))]) ∧ Hid (∀ t (ht : t < ss.length), t < j → GStep ss[t])) (fun s5 _ => m - (intOf s5).toNat)
            case atStart => exact ⟨0, by omega, rfl, S2, hide (fun t _ h => by omega)⟩
            case round =>
              clear S2 HW2 HL
              obtain ⟨j, hj, rfl, HX, HJ⟩ := hrel
              obtain ⟨c0, c1, c2⟩ := cell3 (HX.out.get 0 rfl)
              clear c0 c1
              by_cases hlj : j < m
              · have hjl : j < ss.length := by have := HMM.out; omega
                obtain ⟨b', o', rfl, hb', hnm, hc'⟩ := step_at (A := Am) (c := cm) (n := ss.length) ss (by have := HM.out; unfold StepsAt at this ⊢; exact rd_on this (turn_of HX.out)) (by omega)
                obtain ⟨g0, g1, g2⟩ := hc' j hjl
                clear hc' hnm g2
                obtain ⟨⟨sn, sm, sa⟩, hmd⟩ : ∃ v, v = ss[j] := ⟨_, rfl⟩
                have HMD := hide hmd
                rw [← hmd] at g0 g1
                clear hmd
                simp only at g0 g1
                by_cases q1 : sn.size ≤ 200
                · by_cases q2 : sm.size ≤ 200
                  · go_wp2_with fail
                    go_roundw
                    case rel => exact ⟨j + 1, by omega, by go_num, HX, hide (all_next HJ.out hjl (by rw [← HMD.out]; exact ⟨q1, q2⟩))⟩
                    case measure => simp [intOf]; omega
                  · go_wp2_with fail
                    go_ret
                    exact ⟨_, rfl, (fun e => by cases e), turn_of HX.out⟩
                · go_wp2_with fail
                  go_ret
                  exact ⟨_, rfl, (fun e => by cases e), turn_of HX.out⟩
              · obtain rfl : j = m := by omega
                go_wp2_with fail
                go_roundw
                case rel => exact ⟨k + 1, by omega, by go_num, hide (HX.out.erase 0), hide (all_next HI.out hil (by rw [← HV.out]; exact ⟨hv2, hv3, by rw [← HMM.out]; exact hm4, all_of HMM.out HJ.out⟩))⟩
                case measure => simp [intOf]; omega
          · go_wp2_with fail
            rw [← HW2.out]
            go_ret
            exact ⟨_, rfl, (fun e => by cases e), turn_of S2.out⟩
        · go_wp2_with fail
          rw [← HW2.out]
          go_ret
          exact ⟨_, rfl, (fun e => by cases e), turn_of S2.out⟩
      · go_wp2_with fail
        rw [← HW2.out]
        go_ret
        exact ⟨_, rfl, (fun e => by cases e), turn_of S2.out⟩
    · obtain rfl : k = n := by omega
      go_wp2_with fail
      go_ret
      exact ⟨_, rfl, fun _ => all_of HN.out HI.out, turn_of HL.out⟩
end Go.Proofs.YtnljdcghaecdaaaGreatDoor
