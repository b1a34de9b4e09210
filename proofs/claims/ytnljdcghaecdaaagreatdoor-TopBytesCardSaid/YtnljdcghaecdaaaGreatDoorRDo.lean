/-
  The rule of the doubles. (Printed by mkdbl.py.)
-/
import Derived.Test.YtnljdcghaecdaaaGreatDoorRTy
namespace Go.Proofs.YtnljdcghaecdaaaGreatDoor
open Go.RowKit Go.Lib Go.Maps
attribute [local go_sem] Oper.semAt_some

/-- Was a text not among those ahead? -/
def newB (pre l : List ByteArray) (k : Nat) (x : ByteArray) : Bool := !among ((l.take k).reverse ++ pre) x
def uniqF (l : List FieldD) : Bool := l.zipIdx.all fun p => newB [] (l.map FieldD.name) p.2 p.1.name
def uniqM (l : List MethD) : Bool := l.zipIdx.all fun p => newB [] (l.map MethD.name) p.2 p.1.name
def dblR (rs : List RecD) (p : RecD × Nat) : Bool := newB [] (rs.map RecD.name) p.2 p.1.name && uniqF p.1.fs
def dblV (pre : List ByteArray) (vs : List ServD) (p : ServD × Nat) : Bool := newB pre (vs.map ServD.name) p.2 p.1.name && uniqM p.1.ms
def dblG (pre : List ByteArray) (gs : List SagaD) (p : SagaD × Nat) : Bool := newB pre (gs.map SagaD.name) p.2 p.1.name
def preV (s : SchD) : List ByteArray := (s.rs.map RecD.name).reverse
def preG (s : SchD) : List ByteArray := (s.vs.map ServD.name).reverse ++ preV s
def doublesB (s : SchD) : Bool := s.rs.zipIdx.all (dblR s.rs) && s.vs.zipIdx.all (dblV (preV s) s.vs) && s.gs.zipIdx.all (dblG (preG s) s.gs)
theorem rev_next {α : Type} {nm : α → ByteArray} {l : List α} {k : Nat} (hk : k < l.length) {x : α} (hx : Hid (x = l[k])) (pre : List ByteArray) : nm x :: (((l.map nm).take k).reverse ++ pre) = ((l.map nm).take (k + 1)).reverse ++ pre := by
  rw [List.take_succ_eq_append_getElem (by simpa using hk)]
  simp [hx.out]
theorem rev_len {l : List ByteArray} {k : Nat} {pre : List ByteArray} {a b : Nat} (h : k ≤ a) (h2 : pre.length ≤ b) : ((l.take k).reverse ++ pre).length ≤ a + b := by
  rw [List.length_append, List.length_reverse]
  have := List.length_take_le k l
  omega
theorem zip_at {α : Type} {l : List α} {k : Nat} (hk : k < l.length) {x : α} (hx : Hid (x = l[k])) : Hid ((x, k) = (l.zipIdx)[k]'(by simpa using hk)) := hide (by rw [hx.out]; simp)
section
variable {B : Nat} {w0 w : World} {ts : List Thing}
theorem lay_map (h : Hid (Lie B w0 w ts)) : ∃ (w2 : World) (m : Nat), Hid (w2 = w.alloc (.map #[] 0)) ∧ Hid (m = w.heap.size) ∧ Hid (Lie B w0 w2 (once m [] :: ts)) :=
  ⟨_, _, hide rfl, hide rfl, hide (h.out.push ((Turn.refl _ w).alloc _) (mpt_made w (.int .i64 0)) (fun _ hk => Nat.le_of_eq hk.symm))⟩
theorem once_to {b n : Nat} {l l' : List ByteArray} (h : Hid (Lie B w0 w (ts.set n (once b l)))) (e : l = l') : Hid (Lie B w0 w (ts.set n (once b l'))) := e ▸ h
end
section
variable {W w : World} {fb : Nat} {ok : Bool} {ts : List Thing}
set_option maxRecDepth 100000 in
set_option maxHeartbeats 16000000 in
theorem doubles_any (s : SchD) (h : SchAt W s) (g : GSch s) (L : Lie W.heap.size W w (flt fb ok :: ts)) : Calls Tryz.prog 76 #[schv s, .pointer (some ⟨fb, 0, none⟩)] w (RuleTo W fb ts (ok && doublesB s)) := by
  obtain ⟨Ar, nr, cr, Av, nv, cv, Ag, ng, cg, ev, HSR, HSV, HSG, HGR, HGV, HGG, hnr, hnv, hng⟩ := sch_in s h g
  have hpv : (preV s).length ≤ 100 := by unfold preV; simpa using (recs_len HSR) ▸ hnr
  have hpg : (preG s).length ≤ 200 := by unfold preG; rw [List.length_append]; have := servs_len HSV; simp; omega
  have PV0 : Hid (((s.rs.map RecD.name).take nr).reverse ++ [] = preV s) := hide (by unfold preV; rw [recs_len HSR, List.take_of_length_le (by simp)]; simp)
  have PG0 : Hid (((s.vs.map ServD.name).take nv).reverse ++ preV s = preG s) := hide (by unfold preG; rw [servs_len HSV, List.take_of_length_le (by simp)])
  rw [ev]
  obtain ⟨w1, r, SB, HW, HR, HSB, S1⟩ := lay (hide L) (.cells #[.string s.name, .slice Ar nr cr, .slice Av nv cv, .slice Ag ng cg] 26)
  obtain ⟨wm, mb, HWM, HRM, SM⟩ := lay_map S1
  have HRM2 : Hid (mb = r + 1) := hide (by rw [HRM.out, HW.out, HR.out]; simp)
  have HO : Hid (doublesB s = (s.rs.zipIdx.all (dblR s.rs) && s.vs.zipIdx.all (dblV (preV s) s.vs) && s.gs.zipIdx.all (dblG (preG s) s.gs))) := hide rfl
  generalize doublesB s = tB at *
  generalize preG s = pG at *
  generalize preV s = pV at *
  clear L h g ev
  obtain ⟨z0, z1, z2, z3⟩ := at4 SM 1 rfl HSB
  have hmm := @run_makeMap Tryz.prog
  go_enter Tryz.func76, Tryz.ntmps76
  go_upto_region 2 with (fail)
  rw [← HW.out, ← HWM.out, ← HR.out, ← HRM2.out]
  go_wp2_with fail
  clear z0 z1 z2 z3
  go_loopw [21] (fun sA wr => ∃ (k : Nat) (p : Bool), k ≤ nr ∧ sA = .int .i64 k ∧ Hid (p = (ok && (s.rs.zipIdx.take k).all (dblR s.rs))) ∧ Hid (Lie W.heap.size W wr (once mb (((s.rs.map RecD.name).take k).reverse ++ []) :: SB :: flt fb p :: ts))) (fun sA _ => nr - (intOf sA).toNat)
  case atStart => exact ⟨0, ok, by omega, rfl, start_all _ _ _, SM⟩
  case round =>
    clear SM HW HWM
    obtain ⟨k0, q0, hk0, rfl, HP, HL⟩ := hrel
    by_cases hlt0 : k0 < nr
    · skip
      have hil : k0 < s.rs.length := by have := recs_len HSR; omega
      obtain ⟨x, b, o, Am, m, cm, HX, rfl, hb, d0, d1, d2, HFA, HGF, hx2, hm4⟩ := rec_in HSR HGR (lie_turn HL) hil
      have RN := hide (rev_next (nm := RecD.name) hil HX [])
      have hnl : (((s.rs.map RecD.name).take k0).reverse ++ []).length ≤ 300 := Nat.le_trans (rev_len (a := 100) (b := 0) (by omega) (by first | exact hpv | exact hpg | exact Nat.le_refl _)) (by omega)
      have HNB : Hid (newB [] (s.rs.map RecD.name) k0 x.name = !among (((s.rs.map RecD.name).take k0).reverse ++ []) x.name) := hide rfl
      have NP := fun (t : Bool) (hq : Hid (t = ((q0 && newB [] (s.rs.map RecD.name) k0 x.name) && x.fs.zipIdx.all (fun p => newB [] (x.fs.map FieldD.name) p.2 p.1.name)))) => (show Hid (t = (ok && (s.rs.zipIdx.take (k0 + 1)).all (dblR s.rs))) from hide (by rw [hq.out, Bool.and_assoc]; exact (more_all HP (by simpa using hil) (zip_at hil HX) rfl).out))
      have NPH := hide NP
      clear NP
      obtain ⟨w2, rx, RB, HW2, HR2, HRB, S2⟩ := lay HL (.cells #[.string x.name, .bool x.choice, .slice Am m cm] 61)
      generalize hsl : (((s.rs.map RecD.name).take k0).reverse ++ []) = sl at *
      have HSL := hide hsl
      clear hsl
      go_upto_region 5 with (fail)
      rw [← HW2.out, ← HR2.out]
      clear d0 d1 d2
      obtain ⟨x0, x1, x2⟩ := at3 S2 0 rfl HRB
      go_region_held3 (fun W' => W'.cell? ⟨rx, 0, none⟩ = some (.string x.name)) (go_keep) (first
        | (go_at_call 99; refine (new_any x.name (by omega) (by omega) 1 rfl S2.out.drew).mono ?_; rintro e w5 ⟨rfl, S5⟩; obtain ⟨x0', x1', x2'⟩ := at3 S5 0 rfl HRB)
        | (go_at_call 97; refine (at_any _ _ _ (by unfold BadE; decide) 3 rfl S5.out).mono ?_; rintro e w7 ⟨rfl, S3⟩; obtain ⟨x0'', x1'', x2''⟩ := at3 S3 0 rfl HRB))
      have S3 : Hid (Lie W.heap.size W w7 (RB :: once mb (((s.rs.map RecD.name).take (k0 + 1)).reverse ++ []) :: SB :: flt fb (q0 && newB [] (s.rs.map RecD.name) k0 x.name) :: ts)) := by rw [HNB.out, ← RN.out]; exact S3
      clear x0 x0' x0'' x1 x1' x1'' x2 x2' x2'' S2 S5 HL RN HNB HSL hnl
      obtain ⟨w8, m2, HW8, HR8, S8⟩ := lay_map S3
      obtain ⟨x0, x1, x2⟩ := at3 S8 1 rfl HRB
      go_upto_region 7 with (fail)
      rw [← HW8.out, ← HR8.out]
      go_wp2_with fail
      clear x0 x1 x2
      generalize hsq : (((s.rs.map RecD.name).take (k0 + 1)).reverse ++ []) = sq at *
      have HSQ := hide hsq
      clear hsq
      generalize hst : (q0 && newB [] (s.rs.map RecD.name) k0 x.name) = st at *
      have HST := hide hst
      clear hst
      go_loopw [37] (fun sB wr => ∃ (j : Nat) (t : Bool), j ≤ m ∧ sB = .int .i64 j ∧ Hid (t = (st && (x.fs.zipIdx.take j).all (fun p => newB [] (x.fs.map FieldD.name) p.2 p.1.name))) ∧ Hid (Lie W.heap.size W wr (once m2 (((x.fs.map FieldD.name).take j).reverse ++ []) :: RB :: once mb sq :: SB :: flt fb t :: ts))) (fun sB _ => m - (intOf sB).toNat)
      case atStart => exact ⟨0, _, by omega, rfl, start_all _ _ _, S8⟩
      case round =>
        clear S8 S3 HW8 HW2 HP
        obtain ⟨j, t, hj, rfl, HQ, HL⟩ := hrel
        by_cases hlj : j < m
        · skip
          have hjl : j < x.fs.length := by have := fields_len HFA; omega
          obtain ⟨y, b', o', At, mt, ct, HY, rfl, hb', g0, g1, HTA, hy2, hyl⟩ := field_in HFA HGF (lie_turn HL) hjl
          have RN := hide (rev_next (nm := FieldD.name) hjl HY [])
          have hnl : (((x.fs.map FieldD.name).take j).reverse ++ []).length ≤ 300 := Nat.le_trans (rev_len (a := 40) (b := 0) (by omega) (Nat.le_refl _)) (by omega)
          have HNB : Hid (newB [] (x.fs.map FieldD.name) j y.name = !among (((x.fs.map FieldD.name).take j).reverse ++ []) y.name) := hide rfl
          have NQ : Hid ((t && newB [] (x.fs.map FieldD.name) j y.name) = (st && (x.fs.zipIdx.take (j + 1)).all (fun p => newB [] (x.fs.map FieldD.name) p.2 p.1.name))) := more_all HQ (by simpa using hjl) (zip_at hjl HY) rfl
          obtain ⟨w4, ry, FB, HW4, HR4, HFB, S4⟩ := lay HL (.cells #[.string y.name, .slice At mt ct] 63)
          generalize hsl : (((x.fs.map FieldD.name).take j).reverse ++ []) = sl at *
          have HSL := hide hsl
          clear hsl
          go_upto_region 10 with (fail)
          rw [← HW4.out, ← HR4.out]
          clear g0 g1
          obtain ⟨y0, y1⟩ := at2 S4 0 rfl HFB
          obtain ⟨x0, x1, x2⟩ := at3 S4 2 rfl HRB
          go_region_held3 (fun W' => W'.cell? ⟨ry, 0, none⟩ = some (.string y.name) ∧ W'.cell? ⟨rx, 0, none⟩ = some (.string x.name)) (go_keep) (first
            | (go_at_call 99; refine (new_any y.name (by omega) (by omega) 1 rfl S4.out.drew).mono ?_; rintro e w5 ⟨rfl, S5⟩; obtain ⟨y0', y1'⟩ := at2 S5 0 rfl HFB; obtain ⟨x0', x1', x2'⟩ := at3 S5 2 rfl HRB)
            | (go_at_call 100; refine (part_any _ _ _ (by omega) (by omega)).mono ?_; rintro e w6 ⟨⟨pz, rfl⟩, rfl⟩)
            | (go_at_call 97; refine (at_any _ _ _ (by unfold BadE; decide) 5 rfl S5.out).mono ?_; rintro e w7 ⟨rfl, S7⟩; obtain ⟨y0'', y1''⟩ := at2 S7 0 rfl HFB; obtain ⟨x0'', x1'', x2''⟩ := at3 S7 2 rfl HRB))
          all_goals
            have S7 : Hid (Lie W.heap.size W w7 (FB :: once m2 (((x.fs.map FieldD.name).take (j + 1)).reverse ++ []) :: RB :: once mb sq :: SB :: flt fb (t && newB [] (x.fs.map FieldD.name) j y.name) :: ts)) := by rw [HNB.out, ← RN.out]; exact S7
            clear y0 y1 y0' y1' y0'' y1'' x0 x1 x2 x0' x1' x2' x0'' x1'' x2''
            go_wp2_with fail
            go_roundw
            case rel => exact ⟨j + 1, _, by omega, by go_num, NQ, hide (S7.out.erase 0)⟩
            case measure => simp [intOf]; omega
        · obtain rfl : j = m := by omega
          have HL2 : Hid (Lie W.heap.size W wr (once m2 (((x.fs.map FieldD.name).take j).reverse ++ []) :: RB :: once mb (((s.rs.map RecD.name).take (k0 + 1)).reverse ++ []) :: SB :: flt fb t :: ts)) := by rw [HSQ.out]; exact HL
          go_wp2_with fail
          go_roundw
          case rel => exact ⟨k0 + 1, _, by omega, by go_num, NPH.out _ (end_all HQ ((fields_len HFA).trans (by simp))), hide ((HL2.out.erase 0).erase 0)⟩
          case measure => simp [intOf]; omega
    · obtain rfl : k0 = nr := by omega
      have HE0 := end_all HP ((recs_len HSR).trans (by simp))
      clear HP
      rw [PV0.out] at HL
      obtain ⟨z0, z1, z2, z3⟩ := at4 HL 1 rfl HSB
      go_wp2_with fail
      clear z0 z1 z2 z3
      go_loopw [57] (fun sA wr => ∃ (k : Nat) (p : Bool), k ≤ nv ∧ sA = .int .i64 k ∧ Hid (p = (q0 && (s.vs.zipIdx.take k).all (dblV pV s.vs))) ∧ Hid (Lie W.heap.size W wr (once mb (((s.vs.map ServD.name).take k).reverse ++ pV) :: SB :: flt fb p :: ts))) (fun sA _ => nv - (intOf sA).toNat)
      case atStart => exact ⟨0, q0, by omega, rfl, start_all _ _ _, hide (by have := HL.out; simpa using this)⟩
      case round =>
        clear HL
        obtain ⟨k1, q1, hk1, rfl, HP, HL⟩ := hrel
        by_cases hlt1 : k1 < nv
        · skip
          have hil : k1 < s.vs.length := by have := servs_len HSV; omega
          obtain ⟨x, b, o, Am, m, cm, HX, rfl, hb, d0, d1, HFA, HGF, hx2, hm4⟩ := serv_in HSV HGV (lie_turn HL) hil
          have RN := hide (rev_next (nm := ServD.name) hil HX pV)
          have hnl : (((s.vs.map ServD.name).take k1).reverse ++ pV).length ≤ 300 := Nat.le_trans (rev_len (a := 100) (b := 100) (by omega) (by first | exact hpv | exact hpg | exact Nat.le_refl _)) (by omega)
          have HNB : Hid (newB pV (s.vs.map ServD.name) k1 x.name = !among (((s.vs.map ServD.name).take k1).reverse ++ pV) x.name) := hide rfl
          have NP := fun (t : Bool) (hq : Hid (t = ((q1 && newB pV (s.vs.map ServD.name) k1 x.name) && x.ms.zipIdx.all (fun p => newB [] (x.ms.map MethD.name) p.2 p.1.name)))) => (show Hid (t = (q0 && (s.vs.zipIdx.take (k1 + 1)).all (dblV pV s.vs))) from hide (by rw [hq.out, Bool.and_assoc]; exact (more_all HP (by simpa using hil) (zip_at hil HX) rfl).out))
          have NPH := hide NP
          clear NP
          obtain ⟨w2, rx, RB, HW2, HR2, HRB, S2⟩ := lay HL (.cells #[.string x.name, .slice Am m cm] 83)
          generalize hsl : (((s.vs.map ServD.name).take k1).reverse ++ pV) = sl at *
          have HSL := hide hsl
          clear hsl
          go_upto_region 16 with (fail)
          rw [← HW2.out, ← HR2.out]
          clear d0 d1
          obtain ⟨x0, x1⟩ := at2 S2 0 rfl HRB
          go_region_held3 (fun W' => W'.cell? ⟨rx, 0, none⟩ = some (.string x.name)) (go_keep) (first
            | (go_at_call 99; refine (new_any x.name (by omega) (by omega) 1 rfl S2.out.drew).mono ?_; rintro e w5 ⟨rfl, S5⟩; obtain ⟨x0', x1'⟩ := at2 S5 0 rfl HRB)
            | (go_at_call 97; refine (at_any _ _ _ (by unfold BadE; decide) 3 rfl S5.out).mono ?_; rintro e w7 ⟨rfl, S3⟩; obtain ⟨x0'', x1''⟩ := at2 S3 0 rfl HRB))
          have S3 : Hid (Lie W.heap.size W w7 (RB :: once mb (((s.vs.map ServD.name).take (k1 + 1)).reverse ++ pV) :: SB :: flt fb (q1 && newB pV (s.vs.map ServD.name) k1 x.name) :: ts)) := by rw [HNB.out, ← RN.out]; exact S3
          clear x0 x0' x0'' x1 x1' x1'' S2 S5 HL RN HNB HSL hnl
          obtain ⟨w8, m2, HW8, HR8, S8⟩ := lay_map S3
          obtain ⟨x0, x1⟩ := at2 S8 1 rfl HRB
          go_upto_region 18 with (fail)
          rw [← HW8.out, ← HR8.out]
          go_wp2_with fail
          clear x0 x1
          generalize hsq : (((s.vs.map ServD.name).take (k1 + 1)).reverse ++ pV) = sq at *
          have HSQ := hide hsq
          clear hsq
          generalize hst : (q1 && newB pV (s.vs.map ServD.name) k1 x.name) = st at *
          have HST := hide hst
          clear hst
          go_loopw [73] (fun sB wr => ∃ (j : Nat) (t : Bool), j ≤ m ∧ sB = .int .i64 j ∧ Hid (t = (st && (x.ms.zipIdx.take j).all (fun p => newB [] (x.ms.map MethD.name) p.2 p.1.name))) ∧ Hid (Lie W.heap.size W wr (once m2 (((x.ms.map MethD.name).take j).reverse ++ []) :: RB :: once mb sq :: SB :: flt fb t :: ts))) (fun sB _ => m - (intOf sB).toNat)
          case atStart => exact ⟨0, _, by omega, rfl, start_all _ _ _, S8⟩
          case round =>
            clear S8 S3 HW8 HW2 HP
            obtain ⟨j, t, hj, rfl, HQ, HL⟩ := hrel
            by_cases hlj : j < m
            · skip
              have hjl : j < x.ms.length := by have := meths_len HFA; omega
              obtain ⟨y, b', o', HY, rfl, hb', g0, g1, g2, g3, g4, hy1, hy2, hy3, hy4⟩ := meth_in HFA HGF (lie_turn HL) hjl
              have RN := hide (rev_next (nm := MethD.name) hjl HY [])
              have hnl : (((x.ms.map MethD.name).take j).reverse ++ []).length ≤ 300 := Nat.le_trans (rev_len (a := 40) (b := 0) (by omega) (Nat.le_refl _)) (by omega)
              have HNB : Hid (newB [] (x.ms.map MethD.name) j y.name = !among (((x.ms.map MethD.name).take j).reverse ++ []) y.name) := hide rfl
              have NQ : Hid ((t && newB [] (x.ms.map MethD.name) j y.name) = (st && (x.ms.zipIdx.take (j + 1)).all (fun p => newB [] (x.ms.map MethD.name) p.2 p.1.name))) := more_all HQ (by simpa using hjl) (zip_at hjl HY) rfl
              obtain ⟨w4, ry, FB, HW4, HR4, HFB, S4⟩ := lay HL (.cells #[.string y.name, .string y.arg, .int .u8 y.result, .string y.effect, .string y.undo] 85)
              generalize hsl : (((x.ms.map MethD.name).take j).reverse ++ []) = sl at *
              have HSL := hide hsl
              clear hsl
              go_upto_region 21 with (fail)
              rw [← HW4.out, ← HR4.out]
              clear g0 g1 g2 g3 g4
              obtain ⟨y0, y1, y2, y3, y4⟩ := at5 S4 0 rfl HFB
              obtain ⟨x0, x1⟩ := at2 S4 2 rfl HRB
              go_region_held3 (fun W' => W'.cell? ⟨ry, 0, none⟩ = some (.string y.name) ∧ W'.cell? ⟨rx, 0, none⟩ = some (.string x.name)) (go_keep) (first
                | (go_at_call 99; refine (new_any y.name (by omega) (by omega) 1 rfl S4.out.drew).mono ?_; rintro e w5 ⟨rfl, S5⟩; obtain ⟨y0', y1', y2', y3', y4'⟩ := at5 S5 0 rfl HFB; obtain ⟨x0', x1'⟩ := at2 S5 2 rfl HRB)
                | (go_at_call 100; refine (part_any _ _ _ (by omega) (by omega)).mono ?_; rintro e w6 ⟨⟨pz, rfl⟩, rfl⟩)
                | (go_at_call 97; refine (at_any _ _ _ (by unfold BadE; decide) 5 rfl S5.out).mono ?_; rintro e w7 ⟨rfl, S7⟩; obtain ⟨y0'', y1'', y2'', y3'', y4''⟩ := at5 S7 0 rfl HFB; obtain ⟨x0'', x1''⟩ := at2 S7 2 rfl HRB))
              all_goals
                have S7 : Hid (Lie W.heap.size W w7 (FB :: once m2 (((x.ms.map MethD.name).take (j + 1)).reverse ++ []) :: RB :: once mb sq :: SB :: flt fb (t && newB [] (x.ms.map MethD.name) j y.name) :: ts)) := by rw [HNB.out, ← RN.out]; exact S7
                clear y0 y1 y2 y3 y4 y0' y1' y2' y3' y4' y0'' y1'' y2'' y3'' y4'' x0 x1 x0' x1' x0'' x1''
                go_wp2_with fail
                go_roundw
                case rel => exact ⟨j + 1, _, by omega, by go_num, NQ, hide (S7.out.erase 0)⟩
                case measure => simp [intOf]; omega
            · obtain rfl : j = m := by omega
              have HL2 : Hid (Lie W.heap.size W wr (once m2 (((x.ms.map MethD.name).take j).reverse ++ []) :: RB :: once mb (((s.vs.map ServD.name).take (k1 + 1)).reverse ++ pV) :: SB :: flt fb t :: ts)) := by rw [HSQ.out]; exact HL
              go_wp2_with fail
              go_roundw
              case rel => exact ⟨k1 + 1, _, by omega, by go_num, NPH.out _ (end_all HQ ((meths_len HFA).trans (by simp))), hide ((HL2.out.erase 0).erase 0)⟩
              case measure => simp [intOf]; omega
        · obtain rfl : k1 = nv := by omega
          have HE1 := end_all HP ((servs_len HSV).trans (by simp))
          clear HP
          rw [PG0.out] at HL
          obtain ⟨z0, z1, z2, z3⟩ := at4 HL 1 rfl HSB
          go_wp2_with fail
          clear z0 z1 z2 z3
          go_loopw [93] (fun sA wr => ∃ (k : Nat) (p : Bool), k ≤ ng ∧ sA = .int .i64 k ∧ Hid (p = (q1 && (s.gs.zipIdx.take k).all (dblG pG s.gs))) ∧ Hid (Lie W.heap.size W wr (once mb (((s.gs.map SagaD.name).take k).reverse ++ pG) :: SB :: flt fb p :: ts))) (fun sA _ => ng - (intOf sA).toNat)
          case atStart => exact ⟨0, q1, by omega, rfl, start_all _ _ _, hide (by have := HL.out; simpa using this)⟩
          case round =>
            clear HL
            obtain ⟨k2, q2, hk2, rfl, HP, HL⟩ := hrel
            by_cases hlt2 : k2 < ng
            · skip
              have hil : k2 < s.gs.length := by have := sagas_len HSG; omega
              obtain ⟨x, b, o, Am, m, cm, HX, rfl, hb, d0, d1, d2, HFA, HGF, hx2, hx3, hm4⟩ := saga_in HSG HGG (lie_turn HL) hil
              have RN := hide (rev_next (nm := SagaD.name) hil HX pG)
              have hnl : (((s.gs.map SagaD.name).take k2).reverse ++ pG).length ≤ 300 := Nat.le_trans (rev_len (a := 100) (b := 200) (by omega) (by first | exact hpv | exact hpg | exact Nat.le_refl _)) (by omega)
              have HNB : Hid (newB pG (s.gs.map SagaD.name) k2 x.name = !among (((s.gs.map SagaD.name).take k2).reverse ++ pG) x.name) := hide rfl
              have NQ : Hid ((q2 && newB pG (s.gs.map SagaD.name) k2 x.name) = (q1 && (s.gs.zipIdx.take (k2 + 1)).all (dblG pG s.gs))) := more_all HP (by simpa using hil) (zip_at hil HX) rfl
              obtain ⟨w2, rx, RB, HW2, HR2, HRB, S2⟩ := lay HL (.cells #[.string x.name, .string x.arg, .slice Am m cm] 88)
              generalize hsl : (((s.gs.map SagaD.name).take k2).reverse ++ pG) = sl at *
              have HSL := hide hsl
              clear hsl
              go_upto_region 27 with (fail)
              rw [← HW2.out, ← HR2.out]
              clear d0 d1 d2
              obtain ⟨x0, x1, x2⟩ := at3 S2 0 rfl HRB
              go_region_held3 (fun W' => W'.cell? ⟨rx, 0, none⟩ = some (.string x.name)) (go_keep) (first
                | (go_at_call 99; refine (new_any x.name (by omega) (by omega) 1 rfl S2.out.drew).mono ?_; rintro e w5 ⟨rfl, S5⟩; obtain ⟨x0', x1', x2'⟩ := at3 S5 0 rfl HRB)
                | (go_at_call 97; refine (at_any _ _ _ (by unfold BadE; decide) 3 rfl S5.out).mono ?_; rintro e w7 ⟨rfl, S3⟩; obtain ⟨x0'', x1'', x2''⟩ := at3 S3 0 rfl HRB))
              have S3 : Hid (Lie W.heap.size W w7 (RB :: once mb (((s.gs.map SagaD.name).take (k2 + 1)).reverse ++ pG) :: SB :: flt fb (q2 && newB pG (s.gs.map SagaD.name) k2 x.name) :: ts)) := by rw [HNB.out, ← RN.out]; exact S3
              clear x0 x0' x0'' x1 x1' x1'' x2 x2' x2'' S2 S5 HL RN HNB HSL hnl
              go_wp2_with fail
              go_roundw
              case rel => exact ⟨k2 + 1, _, by omega, by go_num, NQ, hide (S3.out.erase 0)⟩
              case measure => simp [intOf]; omega
            · obtain rfl : k2 = ng := by omega
              have HE2 := end_all HP ((sagas_len HSG).trans (by simp))
              clear HP
              go_wp2_with fail
              first | refine bodyPost_ret (results_none rfl _ _ _) rfl ?_ | go_end0
              exact rule_to rfl (hide HL.out.pop.pop) (by rw [HE2.out, HE1.out, HE0.out, HO.out]; simp only [Bool.and_assoc])
end
end Go.Proofs.YtnljdcghaecdaaaGreatDoor
