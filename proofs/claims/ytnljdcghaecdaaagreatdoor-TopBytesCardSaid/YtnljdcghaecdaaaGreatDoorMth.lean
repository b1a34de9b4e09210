/-
  Methods by name.
-/
import Derived.Test.YtnljdcghaecdaaaGreatDoorOrd
namespace Go.Proofs.YtnljdcghaecdaaaGreatDoor
open Go.RowKit Go.Lib Go.Maps
attribute [local go_sem] Oper.semAt_some

theorem cell5 {w : World} {b : Nat} {x y z u v : Value} {t : TypeId} (h : w.heap[b]? = some (.cells #[x, y, z, u, v] t (0, 0))) : w.cell? ⟨b, 0, none⟩ = some x ∧ w.cell? ⟨b, 1, none⟩ = some y ∧ w.cell? ⟨b, 2, none⟩ = some z ∧ w.cell? ⟨b, 3, none⟩ = some u ∧ w.cell? ⟨b, 4, none⟩ = some v := by
  simp [World.cell?, h]
def findM (vs : List ServD) (x y : ByteArray) : Option MethD := match vs.find? (fun v => decide (v.name = x)) with
  | none => none
  | some v => v.ms.find? (fun m => decide (m.name = y))
theorem find_first {α : Type} {nm : α → ByteArray} {l : List α} {x : ByteArray} {k : Nat} (hk : k < l.length) (h : ∀ t (ht : t < l.length), t < k → nm l[t] ≠ x) (he : nm l[k] = x) : l.find? (fun r => decide (nm r = x)) = some l[k] := by
  rw [List.find?_eq_some_iff_getElem]
  refine ⟨by simp [he], k, hk, rfl, fun j hj => ?_⟩
  have := h j (by omega) hj
  simp [this]
theorem find_nothing {α : Type} {nm : α → ByteArray} {l : List α} {x : ByteArray} (h : ∀ t (ht : t < l.length), t < l.length → nm l[t] ≠ x) : l.find? (fun r => decide (nm r = x)) = none := by
  rw [List.find?_eq_none]
  intro r hr
  obtain ⟨t, ht, rfl⟩ := List.getElem_of_mem hr
  simpa using h t ht ht
def zeroM : MethD := ⟨⟨#[]⟩, ⟨#[]⟩, 0, ⟨#[]⟩, ⟨#[]⟩⟩
abbrev methv (m : MethD) : Value := .agg #[.string m.name, .string m.arg, .int .u8 m.result, .string m.effect, .string m.undo]
def MethTo (o : Option MethD) (w : World) (e : Ending) (w' : World) : Prop := e = .returned (.tuple #[methv (o.getD zeroM), .bool o.isSome]) ∧ Turn (fun _ => False) w w'
set_option maxRecDepth 100000 in
set_option maxHeartbeats 8000000 in
theorem method_any (s : SchD) (x y : ByteArray) (w : World) (h : SchAt w s) (g : GSch s) : Calls Tryz.prog 105 #[schv s, .string x, .string y] w (MethTo (findM s.vs x y) w) := by
  have H := hide h.vs
  have HG := hide g.vs
  have hn := g.nv
  obtain ⟨name, rs, rv, vs, vv, gs, gv⟩ := s
  simp only at H hn HG
  obtain ⟨Ar, cr, e1⟩ := h.vs.1.shape
  simp only at e1
  subst e1
  clear h g
  unfold schv
  simp only
  obtain ⟨n, hnn⟩ : ∃ n, n = vs.length := ⟨_, rfl⟩
  rw [← hnn] at hn ⊢
  have HN := hide hnn
  obtain ⟨w1, hw1⟩ : ∃ w1, w1 = (w.alloc (.cells #[.string name, rv, .slice Ar n cr, gv] 26)).alloc (.cells #[.string ⟨#[]⟩, .string ⟨#[]⟩, .int .u8 0, .string ⟨#[]⟩, .string ⟨#[]⟩] 85) := ⟨_, rfl⟩
  obtain ⟨r, hr⟩ : ∃ r, r = w.heap.size := ⟨_, rfl⟩
  obtain ⟨q, hq⟩ : ∃ q, q = r + 1 := ⟨_, rfl⟩
  have S1 : Hid (Lie w.heap.size w w1 [box q (.cells #[.string ⟨#[]⟩, .string ⟨#[]⟩, .int .u8 0, .string ⟨#[]⟩, .string ⟨#[]⟩] 85 (0, 0)), box r (.cells #[.string name, rv, .slice Ar n cr, gv] 26 (0, 0))]) := hide (by
    have := ((Lie.start w).alloc (.cells #[.string name, rv, .slice Ar n cr, gv] 26)).alloc (.cells #[.string ⟨#[]⟩, .string ⟨#[]⟩, .int .u8 0, .string ⟨#[]⟩, .string ⟨#[]⟩] 85)
    have e : (w.alloc (.cells #[.string name, rv, .slice Ar n cr, gv] 26)).heap.size = q := by rw [hq, hr]; simp
    rw [e] at this
    rw [hw1, hr]; exact this)
  have HW := hide hw1
  have HR := hide hr
  have HQ := hide hq
  clear hw1 hr hq hnn
  have END : ∀ (wr : World) (us : List Thing), Hid (Lie w.heap.size w wr (box q (.cells #[.string ⟨#[]⟩, .string ⟨#[]⟩, .int .u8 0, .string ⟨#[]⟩, .string ⟨#[]⟩] 85 (0, 0)) :: us)) → ∀ m : MethD, Hid (Lie w.heap.size w (((((wr.setCell ⟨q, 0, none⟩ (.string m.name)).setCell ⟨q, 1, none⟩ (.string m.arg)).setCell ⟨q, 2, none⟩ (.int .u8 m.result)).setCell ⟨q, 3, none⟩ (.string m.effect)).setCell ⟨q, 4, none⟩ (.string m.undo)) (box q (.cells #[.string m.name, .string m.arg, .int .u8 m.result, .string m.effect, .string m.undo] 85 (0, 0)) :: us)) := fun wr us L m =>
    hide (((((L.out.setBox 0 rfl 0 (.string m.name)).setBox 0 rfl 1 (.string m.arg)).setBox 0 rfl 2 (.int .u8 m.result)).setBox 0 rfl 3 (.string m.effect)).setBox 0 rfl 4 (.string m.undo))
  have HE := hide END
  clear END
  go_enter Tryz.func105, Tryz.ntmps105
  go_wp2_with fail
  rw [← HW.out, ← HR.out, ← HQ.out]
  go_loopw [15] (fun s3 wr => ∃ k : Nat, k ≤ n ∧ s3 = .int .i64 k ∧ Hid (Lie w.heap.size w wr [box q (.cells #[.string ⟨#[]⟩, .string ⟨#[]⟩, .int .u8 0, .string ⟨#[]⟩, .string ⟨#[]⟩] 85 (0, 0)), box r (.cells #[.string name, rv, .slice Ar n cr, gv] 26 (0, 0))]) ∧ Hid (∀ t (ht : t < vs.length), t < k → vs[t].name ≠ x)) (fun s3 _ => n - (intOf s3).toNat)
  case atStart => exact ⟨0, by omega, rfl, S1, hide (fun t _ h => by omega)⟩
  case round =>
    clear S1 HW
    obtain ⟨k, hk, rfl, HL, HI⟩ := hrel
    by_cases hlt : k < n
    · have hil : k < vs.length := by have := HN.out; omega
      obtain ⟨b, o, rfl, hb, hnv, hc⟩ := serv_at (A := Ar) (c := cr) (n := vs.length) vs (H.out.on (turn_of HL.out)) (by omega)
      obtain ⟨d0, d1⟩ := hc k hil
      clear hc hnv
      have HM := hide (H.out.2 vs[k] (List.getElem_mem hil))
      have HGk := hide (HG.out vs[k] (List.getElem_mem hil))
      obtain ⟨⟨vn, ms, mv⟩, hv⟩ : ∃ v, v = vs[k] := ⟨_, rfl⟩
      have HV := hide hv
      rw [← hv] at d0 d1 HM HGk
      clear hv
      simp only at d0 d1 HM HGk
      obtain ⟨Am, cm, rfl⟩ := HM.out.shape
      obtain ⟨m, hmm⟩ : ∃ m, m = ms.length := ⟨_, rfl⟩
      have HMM := hide hmm
      rw [← hmm] at d1
      have hm4 : m ≤ 40 := by rw [hmm]; exact HGk.out.2.1
      clear hmm
      obtain ⟨w2, hw2⟩ : ∃ w2, w2 = wr.alloc (.cells #[.string vn, .slice Am m cm] 83) := ⟨_, rfl⟩
      obtain ⟨r9, hr2⟩ : ∃ r2, r2 = wr.heap.size := ⟨_, rfl⟩
      have S2 : Hid (Lie w.heap.size w w2 [box r9 (.cells #[.string vn, .slice Am m cm] 83 (0, 0)), box q (.cells #[.string ⟨#[]⟩, .string ⟨#[]⟩, .int .u8 0, .string ⟨#[]⟩, .string ⟨#[]⟩] 85 (0, 0)), box r (.cells #[.string name, rv, .slice (some ⟨b, o, none⟩) n cr, gv] 26 (0, 0))]) := hide (by rw [hw2, hr2]; exact HL.out.alloc _)
      have HW2 := hide hw2
      have HR2 := hide hr2
      by_cases hx : vn = x
      · have e1 : (vn.toList == x.toList) = true := by rw [str_eq]; exact decide_eq_true hx
        have HX0 := hide hx
        clear hw2 hr2 hx
        go_wp2_with fail
        rw [← HW2.out, ← HR2.out]
        clear d0 d1 e1
        go_loopw [26] (fun s26 wr => ∃ j : Nat, j ≤ m ∧ s26 = .int .i64 j ∧ Hid (Lie w.heap.size w wr [box r9 (.cells #[.string vn, .slice Am m cm] 83 (0, 0)), box q (.cells #[.string ⟨#[]⟩, .string ⟨#[]⟩, .int .u8 0, .string ⟨#[]⟩, .string ⟨#[]⟩] 85 (0, 0)), box r (.cells #[.string name, rv, .slice (some ⟨b, o, none⟩) n cr, gv] 26 (0, 0))]) ∧ Hid (∀ t (ht : t < ms.length), t < j → ms[t].name ≠ y)) (fun s26 _ => m - (intOf s26).toNat)
        case atStart => exact ⟨0, by omega, rfl, S2, hide (fun t _ h => by omega)⟩
        case round =>
          clear S2 HW2 HL
          obtain ⟨j, hj, rfl, HX, HJ⟩ := hrel
          by_cases hlj : j < m
          · have hjl : j < ms.length := by have := HMM.out; omega
            obtain ⟨b', o', rfl, hb', hnm, hc'⟩ := meth_at (A := Am) (c := cm) (n := ms.length) ms (by have := HM.out; unfold MethsAt at this ⊢; exact rd_on this (turn_of HX.out)) (by omega)
            obtain ⟨g0, g1, g2, g3, g4⟩ := hc' j hjl
            clear hc' hnm
            obtain ⟨⟨mn, ma, mr, me, mu⟩, hmd⟩ : ∃ v, v = ms[j] := ⟨_, rfl⟩
            have HMD := hide hmd
            rw [← hmd] at g0 g1 g2 g3 g4
            clear hmd
            simp only at g0 g1 g2 g3 g4
            have S4 : Hid (Lie w.heap.size w (wr.alloc (.cells #[.string mn, .string ma, .int .u8 mr, .string me, .string mu] 85)) _) := hide (HX.out.alloc (.cells #[.string mn, .string ma, .int .u8 mr, .string me, .string mu] 85))
            obtain ⟨w4, hw4⟩ : ∃ w4, w4 = wr.alloc (.cells #[.string mn, .string ma, .int .u8 mr, .string me, .string mu] 85) := ⟨_, rfl⟩
            obtain ⟨r11, hr4⟩ : ∃ r2, r2 = wr.heap.size := ⟨_, rfl⟩
            rw [← hw4, ← hr4] at S4
            have HW4 := hide hw4
            have HR4 := hide hr4
            clear hw4 hr4
            by_cases q1 : mn = y
            · have e1 : (mn.toList == y.toList) = true := by rw [str_eq]; exact decide_eq_true q1
              have HF : Hid (findM vs x y = some ⟨mn, ma, mr, me, mu⟩) := hide (by
                unfold findM
                rw [find_first (nm := ServD.name) hil (fun t ht h => HI.out t ht h) (by rw [← HV.out]; exact HX0.out), ← HV.out]
                simp only
                rw [find_first (nm := MethD.name) hjl (fun t ht h => HJ.out t ht h) (by rw [← HMD.out]; exact q1), ← HMD.out])
              have S5 := HE.out w4 _ (hide (S4.out.erase 1).swap) ⟨mn, ma, mr, me, mu⟩
              obtain ⟨y0, y1, y2, y3, y4⟩ := cell5 (S4.out.get 2 rfl)
              have f0 : w4.frozen? ⟨q, 0, none⟩ = false := (box_cell (S4.out.get 2 rfl) 0).2
              have f1 : w4.frozen? ⟨q, 1, none⟩ = false := (box_cell (S4.out.get 2 rfl) 1).2
              have f2 : w4.frozen? ⟨q, 2, none⟩ = false := (box_cell (S4.out.get 2 rfl) 2).2
              have f3 : w4.frozen? ⟨q, 3, none⟩ = false := (box_cell (S4.out.get 2 rfl) 3).2
              have f4 : w4.frozen? ⟨q, 4, none⟩ = false := (box_cell (S4.out.get 2 rfl) 4).2
              rw [HW4.out] at y0 y1 y2 y3 y4 f0 f1 f2 f3 f4
              clear q1
              go_wp2_with (fail)
              rw [← HW4.out]
              clear y0 y1 y2 y3 y4 f0 f1 f2 f3 f4
              generalize ((((w4.setCell ⟨q, 0, none⟩ (.string mn)).setCell ⟨q, 1, none⟩ (.string ma)).setCell ⟨q, 2, none⟩ (.int .u8 mr)).setCell ⟨q, 3, none⟩ (.string me)).setCell ⟨q, 4, none⟩ (.string mu) = w5 at *
              obtain ⟨y0, y1, y2, y3, y4⟩ := cell5 (S5.out.get 0 rfl)
              try simp only [Exit.inBlock, Exit.then]
              refine bodyPost_ret (v := .tuple #[.agg #[.string mn, .string ma, .int .u8 mr, .string me, .string mu], .bool true]) (by rw [results_cell_tmp rfl]; go_simp) rfl ?_
              exact ⟨by rw [HF.out]; rfl, turn_of S5.out⟩
            · have e1 : (mn.toList == y.toList) = false := by rw [str_eq]; exact decide_eq_false q1
              have HJ2 : Hid (∀ t (ht : t < ms.length), t < j + 1 → ms[t].name ≠ y) := hide (all_next (P := fun m : MethD => m.name ≠ y) HJ.out hjl (by rw [← HMD.out]; exact q1))
              clear q1 HE
              go_wp2_with fail
              rw [← HW4.out]
              go_roundw
              case rel => exact ⟨j + 1, by omega, by go_num, hide (S4.out.erase 0), HJ2⟩
              case measure => simp [intOf]; omega
          · obtain rfl : j = m := by omega
            have HF : Hid (findM vs x y = none) := hide (by
              unfold findM
              rw [find_first (nm := ServD.name) hil (fun t ht h => HI.out t ht h) (by rw [← HV.out]; exact HX0.out), ← HV.out]
              simp only
              exact find_nothing (nm := MethD.name) (fun t ht _ => HJ.out t ht (by rw [HMM.out]; exact ht)))
            have S5 := HE.out wr _ (hide HX.out.swap) zeroM
            obtain ⟨y0, y1, y2, y3, y4⟩ := cell5 (HX.out.get 1 rfl)
            have f0 : wr.frozen? ⟨q, 0, none⟩ = false := (box_cell (HX.out.get 1 rfl) 0).2
            have f1 : wr.frozen? ⟨q, 1, none⟩ = false := (box_cell (HX.out.get 1 rfl) 1).2
            have f2 : wr.frozen? ⟨q, 2, none⟩ = false := (box_cell (HX.out.get 1 rfl) 2).2
            have f3 : wr.frozen? ⟨q, 3, none⟩ = false := (box_cell (HX.out.get 1 rfl) 3).2
            have f4 : wr.frozen? ⟨q, 4, none⟩ = false := (box_cell (HX.out.get 1 rfl) 4).2
            clear HE
            unfold zeroM at S5
            simp only at S5
            go_wp2_with (fail)
            clear y0 y1 y2 y3 y4 f0 f1 f2 f3 f4
            generalize ((((wr.setCell ⟨q, 0, none⟩ (.string ⟨#[]⟩)).setCell ⟨q, 1, none⟩ (.string ⟨#[]⟩)).setCell ⟨q, 2, none⟩ (.int .u8 0)).setCell ⟨q, 3, none⟩ (.string ⟨#[]⟩)).setCell ⟨q, 4, none⟩ (.string ⟨#[]⟩) = w5 at *
            obtain ⟨y0, y1, y2, y3, y4⟩ := cell5 (S5.out.get 0 rfl)
            try simp only [Exit.inBlock, Exit.then]
            refine bodyPost_ret (v := .tuple #[.agg #[.string ⟨#[]⟩, .string ⟨#[]⟩, .int .u8 0, .string ⟨#[]⟩, .string ⟨#[]⟩], .bool false]) (by rw [results_cell_tmp rfl]; go_simp) rfl ?_
            exact ⟨by rw [HF.out]; rfl, turn_of S5.out⟩
      · have e1 : (vn.toList == x.toList) = false := by rw [str_eq]; exact decide_eq_false hx
        have HX : Hid (∀ t (ht : t < vs.length), t < k + 1 → vs[t].name ≠ x) := hide (all_next (P := fun r : ServD => r.name ≠ x) HI.out hil (by rw [← HV.out]; exact hx))
        clear hw2 hr2 hx HE
        go_wp2_with fail
        rw [← HW2.out]
        go_roundw
        case rel => exact ⟨k + 1, by omega, by go_num, hide (S2.out.erase 0), HX⟩
        case measure => simp [intOf]; omega
    · obtain rfl : k = n := by omega
      have HF : Hid (findM vs x y = none) := hide (by
        unfold findM
        rw [find_nothing (nm := ServD.name) (fun t ht _ => HI.out t ht (by rw [HN.out]; exact ht))])
      have S5 := HE.out wr _ HL zeroM
      obtain ⟨y0, y1, y2, y3, y4⟩ := cell5 (HL.out.get 0 rfl)
      have f0 : wr.frozen? ⟨q, 0, none⟩ = false := (box_cell (HL.out.get 0 rfl) 0).2
      have f1 : wr.frozen? ⟨q, 1, none⟩ = false := (box_cell (HL.out.get 0 rfl) 1).2
      have f2 : wr.frozen? ⟨q, 2, none⟩ = false := (box_cell (HL.out.get 0 rfl) 2).2
      have f3 : wr.frozen? ⟨q, 3, none⟩ = false := (box_cell (HL.out.get 0 rfl) 3).2
      have f4 : wr.frozen? ⟨q, 4, none⟩ = false := (box_cell (HL.out.get 0 rfl) 4).2
      clear HE
      unfold zeroM at S5
      simp only at S5
      go_wp2_with (fail)
      clear y0 y1 y2 y3 y4 f0 f1 f2 f3 f4
      generalize ((((wr.setCell ⟨q, 0, none⟩ (.string ⟨#[]⟩)).setCell ⟨q, 1, none⟩ (.string ⟨#[]⟩)).setCell ⟨q, 2, none⟩ (.int .u8 0)).setCell ⟨q, 3, none⟩ (.string ⟨#[]⟩)).setCell ⟨q, 4, none⟩ (.string ⟨#[]⟩) = w5 at *
      obtain ⟨y0, y1, y2, y3, y4⟩ := cell5 (S5.out.get 0 rfl)
      try simp only [Exit.inBlock, Exit.then]
      refine bodyPost_ret (v := .tuple #[.agg #[.string ⟨#[]⟩, .string ⟨#[]⟩, .int .u8 0, .string ⟨#[]⟩, .string ⟨#[]⟩], .bool false]) (by rw [results_cell_tmp rfl]; go_simp) rfl ?_
      exact ⟨by rw [HF.out]; rfl, turn_of S5.out⟩
end Go.Proofs.YtnljdcghaecdaaaGreatDoor
