/-
  What is too great.
-/
import Derived.Test.YtnljdcghaecdaaaGreatDoorSch
namespace Go.Proofs.YtnljdcghaecdaaaGreatDoor
open Go.RowKit Go.Lib
attribute [local go_sem] Oper.semAt_some

def AnyB (w : World) (e : Ending) (w' : World) : Prop := ∃ b : Bool, e = .returned (.bool b) ∧ Turn (fun _ => False) w w'
/-- A bool; false tells this. -/
def NoB (Q : Prop) (w : World) (e : Ending) (w' : World) : Prop := ∃ b : Bool, e = .returned (.bool b) ∧ (b = false → Q) ∧ Turn (fun _ => False) w w'
set_option maxRecDepth 100000 in
theorem great17_any (l : Letr) (w : World) : Calls Tryz.prog 5 #[lagg l] w (AnyB w) := by
  obtain ⟨kind, frm, to, seq, key, print, srv, mth, code, body⟩ := l
  have T1 : Hid (Turn (fun _ => False) w (w.alloc (.cells #[.int .u8 kind, .int .i64 frm, .int .i64 to, .int .u64 seq, .string key, .int .u64 print, .string srv, .string mth, .int .i64 code, .string body] 32))) := hide ((Turn.refl _ w).alloc _)
  go_enter Tryz.func5, Tryz.ntmps5
  go_wp2_with fail
  all_goals
    go_ret
    exact ⟨_, rfl, T1.out⟩
def GMeth (m : MethD) : Prop := m.name.size ≤ 200 ∧ m.arg.size ≤ 200 ∧ m.effect.size ≤ 200 ∧ m.undo.size ≤ 200
def GServ (v : ServD) : Prop := v.name.size ≤ 200 ∧ v.ms.length ≤ 40 ∧ ∀ m ∈ v.ms, GMeth m
def GStep (s : StepD) : Prop := s.srv.size ≤ 200 ∧ s.mth.size ≤ 200
def GSaga (g : SagaD) : Prop := g.name.size ≤ 200 ∧ g.arg.size ≤ 200 ∧ g.ss.length ≤ 40 ∧ ∀ s ∈ g.ss, GStep s
def GSort (t : SortD) : Prop := t.name.size ≤ 200
def GField (f : FieldD) : Prop := f.name.size ≤ 200 ∧ f.ts.length ≤ 40 ∧ ∀ t ∈ f.ts, GSort t
def GRec (r : RecD) : Prop := r.name.size ≤ 200 ∧ r.fs.length ≤ 40 ∧ ∀ f ∈ r.fs, GField f
structure GSch (s : SchD) : Prop where
  name : s.name.size ≤ 200
  nr : s.rs.length ≤ 100
  nv : s.vs.length ≤ 100
  ng : s.gs.length ≤ 100
  rs : ∀ r ∈ s.rs, GRec r
  vs : ∀ v ∈ s.vs, GServ v
  gs : ∀ g ∈ s.gs, GSaga g
theorem all_of {α : Type} {P : α → Prop} {l : List α} {n : Nat} (hn : n = l.length) (h : ∀ t (ht : t < l.length), t < n → P l[t]) : ∀ x ∈ l, P x := fun x hx => by
  obtain ⟨t, ht, rfl⟩ := List.getElem_of_mem hx
  exact h t ht (by omega)
theorem all_next {α : Type} {P : α → Prop} {l : List α} {k : Nat} (h : ∀ t (ht : t < l.length), t < k → P l[t]) (hk : k < l.length) (hp : P l[k]) : ∀ t (ht : t < l.length), t < k + 1 → P l[t] := fun t ht htk => by
  rcases Nat.lt_or_ge t k with h2 | h2
  · exact h t ht h2
  · obtain rfl : t = k := by omega
    exact hp
theorem cell4 {w : World} {b : Nat} {x y z u : Value} {t : TypeId} (h : w.heap[b]? = some (.cells #[x, y, z, u] t (0, 0))) : w.cell? ⟨b, 0, none⟩ = some x ∧ w.cell? ⟨b, 1, none⟩ = some y ∧ w.cell? ⟨b, 2, none⟩ = some z ∧ w.cell? ⟨b, 3, none⟩ = some u := by
  simp [World.cell?, h]
theorem cell3 {w : World} {b : Nat} {x y z : Value} {t : TypeId} (h : w.heap[b]? = some (.cells #[x, y, z] t (0, 0))) : w.cell? ⟨b, 0, none⟩ = some x ∧ w.cell? ⟨b, 1, none⟩ = some y ∧ w.cell? ⟨b, 2, none⟩ = some z := by
  simp [World.cell?, h]
theorem turn_of {w wr : World} {ts : List Thing} (h : Lie w.heap.size w wr ts) : Turn (fun _ => False) w wr := Turn.of_below h.below
set_option maxRecDepth 100000 in
set_option maxHeartbeats 4000000 in
theorem great_vs (s : SchD) (w : World) (h : SchAt w s) (hn : s.vs.length ≤ 100) : Calls Tryz.prog 22 #[schv s] w (NoB (∀ v ∈ s.vs, GServ v) w) := by
  have H := hide h.vs
  obtain ⟨name, rs, rv, vs, vv, gs, gv⟩ := s
  simp only at H hn
  obtain ⟨Ar, cr, e1⟩ := h.rs.1.shape
  obtain ⟨Av, cv, e2⟩ := h.vs.1.shape
  obtain ⟨Ag, cg, e3⟩ := h.gs.1.shape
  simp only at e1 e2 e3
  subst e1 e2 e3
  obtain ⟨n, hnn⟩ : ∃ n, n = vs.length := ⟨_, rfl⟩
  have HN := hide hnn
  rw [← hnn] at hn
  obtain ⟨nr, hnr⟩ : ∃ n, n = rs.length := ⟨_, rfl⟩
  obtain ⟨ng, hng⟩ : ∃ n, n = gs.length := ⟨_, rfl⟩
  clear h
  unfold schv
  simp only
  rw [← hnn, ← hnr, ← hng]
  obtain ⟨w1, hw1⟩ : ∃ w1, w1 = w.alloc (.cells #[.string name, .slice Ar nr cr, .slice Av n cv, .slice Ag ng cg] 26) := ⟨_, rfl⟩
  obtain ⟨r, hr⟩ : ∃ r, r = w.heap.size := ⟨_, rfl⟩
  have S1 : Hid (Lie w.heap.size w w1 [box r (.cells #[.string name, .slice Ar nr cr, .slice Av n cv, .slice Ag ng cg] 26 (0, 0))]) := hide (by rw [hw1, hr]; exact (Lie.start w).alloc _)
  have HW := hide hw1
  have HR := hide hr
  clear hw1 hr hnn hnr hng
  go_enter Tryz.func22, Tryz.ntmps22
  go_wp2_with fail
  rw [← HW.out, ← HR.out]
  go_loopw [3] (fun s3 wr => ∃ k : Nat, k ≤ n ∧ s3 = .int .i64 k ∧ Hid (Lie w.heap.size w wr [box r (.cells #[.string name, .slice Ar nr cr, .slice Av n cv, .slice Ag ng cg] 26 (0, 0))]) ∧ Hid (∀ t (ht : t < vs.length), t < k → GServ vs[t])) (fun s3 _ => n - (intOf s3).toNat)
  case atStart => exact ⟨0, by omega, rfl, S1, hide (fun t _ h => by omega)⟩
  case round =>
    clear S1 HW
    obtain ⟨k, hk, rfl, HL, HI⟩ := hrel
    obtain ⟨c0, c1, c2, c3⟩ := cell4 (HL.out.get 0 rfl)
    by_cases hlt : k < n
    · have hil : k < vs.length := by have := HN.out; omega
      obtain ⟨b, o, rfl, hb, hnv, hc⟩ := serv_at (A := Av) (c := cv) (n := vs.length) vs (H.out.on (turn_of HL.out)) (by omega)
      obtain ⟨d0, d1⟩ := hc k hil
      clear hc hnv
      have HM := hide (H.out.2 vs[k] (List.getElem_mem hil))
      obtain ⟨⟨vn, ms, mv⟩, hv⟩ : ∃ v, v = vs[k] := ⟨_, rfl⟩
      have HV := hide hv
      rw [← hv] at d0 d1 HM
      clear hv
      simp only at d0 d1 HM
      obtain ⟨Am, cm, rfl⟩ := HM.out.shape
      obtain ⟨m, hmm⟩ : ∃ m, m = ms.length := ⟨_, rfl⟩
      have HMM := hide hmm
      rw [← hmm] at d1
      clear hmm
      obtain ⟨w2, hw2⟩ : ∃ w2, w2 = wr.alloc (.cells #[.string vn, .slice Am m cm] 83) := ⟨_, rfl⟩
      obtain ⟨r2, hr2⟩ : ∃ r2, r2 = wr.heap.size := ⟨_, rfl⟩
      have S2 : Hid (Lie w.heap.size w w2 [box r2 (.cells #[.string vn, .slice Am m cm] 83 (0, 0)), box r (.cells #[.string name, .slice Ar nr cr, .slice (some ⟨b, o, none⟩) n cv, .slice Ag ng cg] 26 (0, 0))]) := hide (by rw [hw2, hr2]; exact HL.out.alloc _)
      have HW2 := hide hw2
      have HR2 := hide hr2
      clear hw2 hr2
      clear c0 c1 c3
      by_cases hv2 : vn.size ≤ 200
      · by_cases hm4 : m ≤ 40
        · go_wp2_with fail
          rw [← HW2.out, ← HR2.out]
          clear c2 d0 d1
          go_loopw [5] (fun s5 wr => ∃ j : Nat, j ≤ m ∧ s5 = .int .i64 j ∧ Hid (Lie w.heap.size w wr [box r2 (.cells #[.string vn, .slice Am m cm] 83 (0, 0)), box r (.cells #[.string name, .slice Ar nr cr, .slice (some ⟨b, o, none⟩) n cv, .slice Ag ng cg] 26 (0, 0))]) ∧ Hid (∀ t (ht : t < ms.length), t < j → GMeth ms[t])) (fun s5 _ => m - (intOf s5).toNat)
          case atStart => exact ⟨0, by omega, rfl, S2, hide (fun t _ h => by omega)⟩
          case round =>
            clear S2 HW2 HL
            obtain ⟨j, hj, rfl, HX, HJ⟩ := hrel
            obtain ⟨c0, c1, f0, f1⟩ := cell2 (HX.out.get 0 rfl)
            clear c0 f0 f1
            by_cases hlj : j < m
            · have hjl : j < ms.length := by have := HMM.out; omega
              obtain ⟨b', o', rfl, hb', hnm, hc'⟩ := meth_at (A := Am) (c := cm) (n := ms.length) ms (by have := HM.out; unfold MethsAt at this ⊢; exact rd_on this (turn_of HX.out)) (by omega)
              obtain ⟨g0, g1, g2, g3, g4⟩ := hc' j hjl
              clear hc' hnm
              obtain ⟨⟨mn, ma, mr, me, mu⟩, hmd⟩ : ∃ v, v = ms[j] := ⟨_, rfl⟩
              have HMD := hide hmd
              rw [← hmd] at g0 g1 g2 g3 g4
              clear hmd
              simp only at g0 g1 g2 g3 g4
              have S4 := hide (HX.out.skip (.cells #[.string mn, .string ma, .int .u8 mr, .string me, .string mu] 85))
              obtain ⟨w4, hw4⟩ : ∃ w4, w4 = wr.alloc (.cells #[.string mn, .string ma, .int .u8 mr, .string me, .string mu] 85) := ⟨_, rfl⟩
              rw [← hw4] at S4
              have HW4 := hide hw4
              clear hw4
              by_cases q1 : mn.size ≤ 200
              · by_cases q2 : ma.size ≤ 200
                · by_cases q3 : me.size ≤ 200
                  · by_cases q4 : mu.size ≤ 200
                    · go_wp2_with fail
                      rw [← HW4.out]
                      go_roundw
                      case rel => exact ⟨j + 1, by omega, by go_num, S4, hide (all_next HJ.out hjl (by rw [← HMD.out]; exact ⟨q1, q2, q3, q4⟩))⟩
                      case measure => simp [intOf]; omega
                    · go_wp2_with fail
                      rw [← HW4.out]
                      go_ret
                      exact ⟨_, rfl, (fun e => by cases e), turn_of S4.out⟩
                  · go_wp2_with fail
                    rw [← HW4.out]
                    go_ret
                    exact ⟨_, rfl, (fun e => by cases e), turn_of S4.out⟩
                · go_wp2_with fail
                  rw [← HW4.out]
                  go_ret
                  exact ⟨_, rfl, (fun e => by cases e), turn_of S4.out⟩
              · go_wp2_with fail
                rw [← HW4.out]
                go_ret
                exact ⟨_, rfl, (fun e => by cases e), turn_of S4.out⟩
            · obtain rfl : j = m := by omega
              go_wp2_with fail
              go_roundw
              case rel => exact ⟨k + 1, by omega, by go_num, hide (HX.out.erase 0), hide (all_next HI.out hil (by rw [← HV.out]; exact ⟨hv2, by rw [← HMM.out]; exact hm4, all_of HMM.out HJ.out⟩))⟩
              case measure => simp [intOf]; omega
        · go_wp2_with fail
          rw [← HW2.out]
          go_ret
          exact ⟨_, rfl, (fun e => by cases e), turn_of S2.out⟩
      · go_wp2_with fail
        rw [← HW2.out]
        go_ret
        exact ⟨_, rfl, (fun e => by cases e), turn_of S2.out⟩
    · obtain rfl : k = n := by omega
      go_wp2_with fail
      go_ret
      exact ⟨_, rfl, fun _ => all_of HN.out HI.out, turn_of HL.out⟩
end Go.Proofs.YtnljdcghaecdaaaGreatDoor
