/-
  Schemas that are great.
-/
import Derived.Test.YtnljdcghaecdaaaGreatDoorGreatG
namespace Go.Proofs.YtnljdcghaecdaaaGreatDoor
open Go.RowKit Go.Lib
attribute [local go_sem] Oper.semAt_some

set_option maxRecDepth 100000 in
set_option maxHeartbeats 8000000 in
theorem great13_any (s : SchD) (w : World) (h : SchAt w s) : Calls Tryz.prog 10 #[schv s] w (NoB (GSch s) w) := by
  have H := hide h.rs
  have CV := fun hn (w' : World) (t : Turn (fun _ => False) w w') => great_vs s w' (h.on t) hn
  have CG := fun hn (w' : World) (t : Turn (fun _ => False) w w') => great_gs s w' (h.on t) hn
  have GS : Hid (s.name.size ≤ 200 → s.rs.length ≤ 100 → s.vs.length ≤ 100 → s.gs.length ≤ 100 → (∀ r ∈ s.rs, GRec r) → (∀ r ∈ s.vs, GServ r) → (∀ r ∈ s.gs, GSaga r) → GSch s) := hide (fun a b c d e f g => ⟨a, b, c, d, e, f, g⟩)
  have HS : Hid (∀ w', NoB (GSch s) w w' = NoB (GSch s) w w') := hide (fun _ => rfl)
  generalize hG : GSch s = G at *
  obtain ⟨name, rs, rv, vs, vv, gs, gv⟩ := s
  simp only at H GS CV CG
  obtain ⟨Ar, cr, e1⟩ := h.rs.1.shape
  obtain ⟨Av, cv, e2⟩ := h.vs.1.shape
  obtain ⟨Ag, cg, e3⟩ := h.gs.1.shape
  simp only at e1 e2 e3
  subst e1 e2 e3
  clear HS hG h
  unfold schv at CV CG ⊢
  simp only at CV CG ⊢
  obtain ⟨n, hnn⟩ : ∃ n, n = rs.length := ⟨_, rfl⟩
  obtain ⟨nv, hnv⟩ : ∃ n, n = vs.length := ⟨_, rfl⟩
  obtain ⟨ng, hng⟩ : ∃ n, n = gs.length := ⟨_, rfl⟩
  rw [← hnn, ← hnv, ← hng] at CV CG GS ⊢
  have HN := hide hnn
  have CV := hide CV
  have CG := hide CG
  obtain ⟨w1, hw1⟩ : ∃ w1, w1 = w.alloc (.cells #[.string name, .slice Ar n cr, .slice Av nv cv, .slice Ag ng cg] 26) := ⟨_, rfl⟩
  obtain ⟨r, hr⟩ : ∃ r, r = w.heap.size := ⟨_, rfl⟩
  have S1 : Hid (Lie w.heap.size w w1 [box r (.cells #[.string name, .slice Ar n cr, .slice Av nv cv, .slice Ag ng cg] 26 (0, 0))]) := hide (by rw [hw1, hr]; exact (Lie.start w).alloc _)
  have HW := hide hw1
  have HR := hide hr
  clear hw1 hr hnn hnv hng
  by_cases b1 : n ≤ 100
  · by_cases b2 : nv ≤ 100
    · by_cases b3 : ng ≤ 100
      · by_cases b4 : name.size ≤ 200
        · go_enter Tryz.func10, Tryz.ntmps10
          go_wp2_with fail
          rw [← HW.out, ← HR.out]
          go_loopw [3] (fun s3 wr => ∃ k : Nat, k ≤ n ∧ s3 = .int .i64 k ∧ Hid (Lie w.heap.size w wr [box r (.cells #[.string name, .slice Ar n cr, .slice Av nv cv, .slice Ag ng cg] 26 (0, 0))]) ∧ Hid (∀ t (ht : t < rs.length), t < k → GRec rs[t])) (fun s3 _ => n - (intOf s3).toNat)
          case atStart => exact ⟨0, by omega, rfl, S1, hide (fun t _ h => by omega)⟩
          case round =>
            clear S1 HW
            obtain ⟨k, hk, rfl, HL, HI⟩ := hrel
            obtain ⟨c0, c1, c2, c3⟩ := cell4 (HL.out.get 0 rfl)
            by_cases hlt : k < n
            · clear CV CG GS
              have hil : k < rs.length := by have := HN.out; omega
              obtain ⟨b, o, rfl, hb, hnv, hc⟩ := rec_at (A := Ar) (c := cr) (n := rs.length) rs (H.out.on (turn_of HL.out)) (by omega)
              obtain ⟨d0, d1, d2⟩ := hc k hil
              clear hc hnv
              have HM := hide (H.out.2 rs[k] (List.getElem_mem hil))
              obtain ⟨⟨rn, rc, fs, fv⟩, hv⟩ : ∃ v, v = rs[k] := ⟨_, rfl⟩
              have HV := hide hv
              rw [← hv] at d0 d1 d2 HM
              clear hv
              simp only at d0 d1 d2 HM
              obtain ⟨Am, cm, rfl⟩ := HM.out.1.shape
              obtain ⟨m, hmm⟩ : ∃ m, m = fs.length := ⟨_, rfl⟩
              have HMM := hide hmm
              rw [← hmm] at d2
              clear hmm
              obtain ⟨w2, hw2⟩ : ∃ w2, w2 = wr.alloc (.cells #[.string rn, .bool rc, .slice Am m cm] 61) := ⟨_, rfl⟩
              obtain ⟨r2, hr2⟩ : ∃ r2, r2 = wr.heap.size := ⟨_, rfl⟩
              have S2 : Hid (Lie w.heap.size w w2 [box r2 (.cells #[.string rn, .bool rc, .slice Am m cm] 61 (0, 0)), box r (.cells #[.string name, .slice (some ⟨b, o, none⟩) n cr, .slice Av nv cv, .slice Ag ng cg] 26 (0, 0))]) := hide (by rw [hw2, hr2]; exact HL.out.alloc _)
              have HW2 := hide hw2
              have HR2 := hide hr2
              clear hw2 hr2 c0 c2 c3
              by_cases hv2 : rn.size ≤ 200
              · by_cases hm4 : m ≤ 40
                · go_wp2_with fail
                  rw [← HW2.out, ← HR2.out]
                  clear c1 d0 d1 d2
                  go_loopw [5] (fun s5 wr => ∃ j : Nat, j ≤ m ∧ s5 = .int .i64 j ∧ Hid (Lie w.heap.size w wr [box r2 (.cells #[.string rn, .bool rc, .slice Am m cm] 61 (0, 0)), box r (.cells #[.string name, .slice (some ⟨b, o, none⟩) n cr, .slice Av nv cv, .slice Ag ng cg] 26 (0, 0))]) ∧ Hid (∀ t (ht : t < fs.length), t < j → GField fs[t])) (fun s5 _ => m - (intOf s5).toNat)
                  case atStart => exact ⟨0, by omega, rfl, S2, hide (fun t _ h => by omega)⟩
                  case round =>
                    clear S2 HW2 HL
                    obtain ⟨j, hj, rfl, HX, HJ⟩ := hrel
                    obtain ⟨c0, c1, c2⟩ := cell3 (HX.out.get 0 rfl)
                    clear c0 c1
                    by_cases hlj : j < m
                    · have hjl : j < fs.length := by have := HMM.out; omega
                      obtain ⟨b', o', rfl, hb', hnm, hc'⟩ := field_at (A := Am) (c := cm) (n := fs.length) fs (HM.out.on (turn_of HX.out)) (by omega)
                      obtain ⟨g0, g1⟩ := hc' j hjl
                      clear hc' hnm
                      have HMF := hide (HM.out.2 fs[j] (List.getElem_mem hjl))
                      have HMG := hide (fun (wr : World) (t : Turn (fun _ => False) w wr) => (field_at (A := some ⟨b', o', none⟩) (c := cm) (n := fs.length) fs (HM.out.on t) (by omega)))
                      obtain ⟨⟨fn, ts, tv⟩, hmd⟩ : ∃ v, v = fs[j] := ⟨_, rfl⟩
                      have HMD := hide hmd
                      rw [← hmd] at g0 g1 HMF
                      clear hmd
                      simp only at g0 g1 HMF
                      obtain ⟨At, ct, rfl⟩ := HMF.out.1.shape
                      obtain ⟨p, hpp⟩ : ∃ p, p = ts.length := ⟨_, rfl⟩
                      have HPP := hide hpp
                      rw [← hpp] at g1
                      clear hpp
                      by_cases q1 : fn.size ≤ 200
                      · by_cases q2 : p ≤ 40
                        · go_wp2_with fail
                          clear HMG
                          go_loopw [6] (fun s6 wy => ∃ i : Nat, i ≤ p ∧ s6 = .int .i64 i ∧ Hid (wy = wr) ∧ Hid (∀ t (ht : t < ts.length), t < i → GSort ts[t])) (fun s6 _ => p - (intOf s6).toNat)
                          case atStart => exact ⟨0, by omega, rfl, hide rfl, hide (fun t _ h => by omega)⟩
                          case round =>
                            obtain ⟨i, hi, rfl, HY, HIY⟩ := hrel
                            have hy := HY.out
                            subst hy
                            by_cases hli : i < p
                            · have hiy : i < ts.length := by have := HPP.out; omega
                              obtain ⟨b'', o'', rfl, hb'', hny, hcy⟩ := sort_at (A := At) (c := ct) (n := ts.length) ts (HMF.out.on (turn_of HX.out)) (by omega)
                              obtain ⟨k0, k1⟩ := hcy i hiy
                              clear hcy hny k0
                              obtain ⟨⟨sk, sn⟩, hsd⟩ : ∃ v, v = ts[i] := ⟨_, rfl⟩
                              have HSD := hide hsd
                              rw [← hsd] at k1
                              clear hsd
                              simp only at k1
                              by_cases z1 : sn.size ≤ 200
                              · go_wp2_with fail
                                go_roundw
                                case rel => exact ⟨i + 1, by omega, by go_num, hide trivial, hide (all_next HIY.out hiy (by rw [← HSD.out]; exact z1))⟩
                                case measure => simp [intOf]; omega
                              · go_wp2_with fail
                                go_ret
                                exact ⟨_, rfl, (fun e => by cases e), turn_of HX.out⟩
                            · obtain rfl : i = p := by omega
                              go_wp2_with fail
                              go_roundw
                              case rel => exact ⟨j + 1, by omega, by go_num, HX, hide (all_next HJ.out hjl (by rw [← HMD.out]; exact ⟨q1, by rw [← HPP.out]; exact q2, all_of HPP.out HIY.out⟩))⟩
                              case measure => simp [intOf]; omega
                        · go_wp2_with fail
                          go_ret
                          exact ⟨_, rfl, (fun e => by cases e), turn_of HX.out⟩
                      · go_wp2_with fail
                        go_ret
                        exact ⟨_, rfl, (fun e => by cases e), turn_of HX.out⟩
                    · obtain rfl : j = m := by omega
                      go_wp2_with fail
                      go_roundw
                      case rel => exact ⟨k + 1, by omega, by go_num, hide (HX.out.erase 0), hide (all_next HI.out hil (by rw [← HV.out]; exact ⟨hv2, by rw [← HMM.out]; exact hm4, all_of HMM.out HJ.out⟩))⟩
                      case measure => simp [intOf]; omega
                · go_wp2_with fail
                  rw [← HW2.out]
                  go_ret
                  exact ⟨_, rfl, (fun e => by cases e), turn_of S2.out⟩
              · go_wp2_with fail
                rw [← HW2.out]
                go_ret
                exact ⟨_, rfl, (fun e => by cases e), turn_of S2.out⟩
            · obtain rfl : k = n := by omega
              have C1 := hide (CV.out b2 wr (turn_of HL.out))
              have GS2 := hide (fun h => GS.out b4 b1 b2 b3 (all_of HN.out HI.out) h)
              clear CV GS H HI
              go_wp2_with fail
              refine C1.out.mono ?_
              rintro e w2 ⟨bv, rfl, hv, T2⟩
              have L2 := hide (HL.out.stay T2)
              have C2 := hide (CG.out b3 w2 (turn_of L2.out))
              obtain ⟨x0, x1, x2, x3⟩ := cell4 (L2.out.get 0 rfl)
              clear CG HL C1 c0 c1 c2 c3 T2
              cases bv with
              | true =>
                go_wp2_with fail
                go_ret
                exact ⟨_, rfl, (fun e => by cases e), turn_of L2.out⟩
              | false =>
                have GS3 := hide (GS2.out (hv rfl))
                clear hv GS2
                go_wp2_with fail
                refine C2.out.mono ?_
                rintro e w3 ⟨bw, rfl, hw, T3⟩
                have L3 := hide (L2.out.stay T3)
                have GS4 := hide (fun e => GS3.out (hw e))
                clear C2 L2 T3 GS3 hw x0 x1 x2 x3
                go_wp2_with fail
                go_ret
                exact ⟨bw, rfl, GS4.out, turn_of L3.out⟩
        · go_enter Tryz.func10, Tryz.ntmps10
          go_wp2_with fail
          rw [← HW.out]
          go_ret
          exact ⟨_, rfl, (fun e => by cases e), turn_of S1.out⟩
      · go_enter Tryz.func10, Tryz.ntmps10
        go_wp2_with fail
        rw [← HW.out]
        go_ret
        exact ⟨_, rfl, (fun e => by cases e), turn_of S1.out⟩
    · go_enter Tryz.func10, Tryz.ntmps10
      go_wp2_with fail
      rw [← HW.out]
      go_ret
      exact ⟨_, rfl, (fun e => by cases e), turn_of S1.out⟩
  · go_enter Tryz.func10, Tryz.ntmps10
    go_wp2_with fail
    rw [← HW.out]
    go_ret
    exact ⟨_, rfl, (fun e => by cases e), turn_of S1.out⟩
end Go.Proofs.YtnljdcghaecdaaaGreatDoor
