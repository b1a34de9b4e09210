/-
  Order records.
-/
import Derived.Test.YtnljdcghaecdaaaGreatDoorMth
import Derived.Deep.RegionHeld3
namespace Go.Proofs.YtnljdcghaecdaaaGreatDoor
open Go.RowKit Go.Lib Go.Maps
attribute [local go_sem] Oper.semAt_some

def accountS : ByteArray := ⟨#[97, 99, 99, 111, 117, 110, 116]⟩
def amountS : ByteArray := ⟨#[97, 109, 111, 117, 110, 116]⟩
def accB (p : ByteArray × List SortD) : Bool := decide (p.1 = accountS) && onlyB p.2 4
def amtB (p : ByteArray × List SortD) : Bool := decide (p.1 = amountS) && onlyB p.2 3
def orderB (rs : List RecD) (x : ByteArray) : Bool := hasR rs x && !(findR rs x).2.1 && (findR rs x).2.2.any accB && (findR rs x).2.2.any amtB
theorem take_any {α : Type} {P : α → Bool} {l : List α} {k : Nat} (hk : k < l.length) : (l.take (k + 1)).any P = ((l.take k).any P || P l[k]) := by
  rw [List.take_succ_eq_append_getElem hk, List.any_append]
  simp
theorem more_any2 {α : Type} {P : α → Bool} {l : List α} {k : Nat} {p r : Bool} (hp : p = (l.take k).any P) (hk : k < l.length) (hr : P l[k] = r) : (p || r) = (l.take (k + 1)).any P := by
  rw [take_any hk, hp, hr]
theorem any_fld {P : ByteArray × List SortD → Bool} (l : List FieldD) : (l.map fld).any P = l.any (fun f => P (fld f)) := by rw [List.any_map]; rfl
set_option maxRecDepth 100000 in
set_option maxHeartbeats 8000000 in
theorem order_any (s : SchD) (x : ByteArray) (w : World) (h : SchAt w s) (g : GSch s) : Calls Tryz.prog 104 #[schv s, .string x] w (BoolTo (orderB s.rs x) w) := by
  have CF := hide (fun (w' : World) (t : Turn (fun _ => False) w w') => find_any s x w' (h.on t) g)
  have HO : Hid (orderB s.rs x = (hasR s.rs x && !(findR s.rs x).2.1 && (findR s.rs x).2.2.any accB && (findR s.rs x).2.2.any amtB)) := hide rfl
  have HGL : Hid (∀ r : RecD, reck r = findR s.rs x → r.fs.length ≤ 40) := hide (fun r hr => by
    have h1 : r.fs.length = (findR s.rs x).2.2.length := by rw [← hr]; simp
    rw [h1]
    unfold findR
    split
    · rename_i r' hf
      have := g.rs r' (List.mem_of_find?_eq_some hf)
      simpa using this.2.1
    · simp)
  generalize s.rs = rs at *
  obtain ⟨name, rs0, rv, vs, vv, gs, gv⟩ := s
  clear h g
  unfold schv at *
  simp only at *
  obtain ⟨w1, hw1⟩ : ∃ w1, w1 = w.alloc (.cells #[.string name, rv, vv, gv] 26) := ⟨_, rfl⟩
  obtain ⟨r, hr⟩ : ∃ r, r = w.heap.size := ⟨_, rfl⟩
  have S1 : Hid (Lie w.heap.size w w1 [box r (.cells #[.string name, rv, vv, gv] 26 (0, 0))]) := hide (by rw [hw1, hr]; exact (Lie.start w).alloc _)
  have HW := hide hw1
  have HR := hide hr
  clear hw1 hr
  obtain ⟨z0, z1, z2, z3⟩ := cell4 (S1.out.get 0 rfl)
  rw [HW.out] at z0 z1 z2 z3
  have CF2 := hide (CF.out w1 (turn_of S1.out))
  clear CF
  go_enter Tryz.func104, Tryz.ntmps104
  go_wp2_with fail
  rw [← HW.out]
  refine CF2.out.mono ?_
  rintro e w2 ⟨⟨rn, rc, fs, fv⟩, rfl, hrk, hF, T2⟩
  generalize orderB rs x = ob at *
  generalize hasR rs x = hr0 at *
  generalize findR rs x = fr at *
  have HF := hide hF
  have HRK := hide hrk
  have hm4 : fs.length ≤ 40 := HGL.out ⟨rn, rc, fs, fv⟩ hrk
  obtain ⟨A3, c3, hs3⟩ := hF.1.shape
  simp only at hs3
  subst hs3
  obtain ⟨m, hmm⟩ : ∃ m, m = fs.length := ⟨_, rfl⟩
  have HM := hide hmm
  rw [← hmm] at hm4
  obtain ⟨w3, hw3⟩ : ∃ w3, w3 = w2.alloc (.cells #[.string rn, .bool rc, .slice A3 m c3] 61) := ⟨_, rfl⟩
  obtain ⟨r5, hr5⟩ : ∃ r, r = w2.heap.size := ⟨_, rfl⟩
  have S3 : Hid (Lie w.heap.size w w3 [box r5 (.cells #[.string rn, .bool rc, .slice A3 m c3] 61 (0, 0))]) := hide (by rw [hw3, hr5]; exact ((S1.out.stay T2).pop).alloc _)
  have T3 : Hid (Turn (fun _ => False) w2 w3) := hide (by rw [hw3]; exact (Turn.refl _ w2).alloc _)
  have HW3 := hide hw3
  have HR5 := hide hr5
  have HOB : Hid (ob = (hr0 && !rc && (fs.any fun f => accB (fld f)) && (fs.any fun f => amtB (fld f)))) := hide (by rw [HO.out, ← HRK.out]; rw [any_fld, any_fld])
  rw [← hmm]
  clear z0 z1 z2 z3 CF2 S1 HW hF T2 hrk hmm hw3 hr5 HO HGL
  go_wp2_with fail
  rw [← HW3.out, ← HR5.out]
  go_loopw [20, 7, 8] (fun s20 s7 s8 wr => ∃ (k : Nat) (a b : Bool), k ≤ m ∧ s20 = .int .i64 k ∧ s7 = .bool a ∧ s8 = .bool b ∧ Hid (a = (fs.take k).any fun f => accB (fld f)) ∧ Hid (b = (fs.take k).any fun f => amtB (fld f)) ∧ Hid (wr.heap.size ≥ w3.heap.size ∧ Turn (fun _ => False) w3 wr) ∧ Hid (Lie w.heap.size w wr [box r5 (.cells #[.string rn, .bool rc, .slice A3 m c3] 61 (0, 0))])) (fun s20 _ _ _ => m - (intOf s20).toNat)
  case atStart => exact ⟨0, false, false, by omega, rfl, rfl, rfl, hide (by simp), hide (by simp), hide ⟨Nat.le_refl _, Turn.refl _ _⟩, S3⟩
  case round =>
    clear S3
    obtain ⟨k, a, b, hk, rfl, rfl, rfl, HA, HB, HT, HL⟩ := hrel
    by_cases hlt : k < m
    · have hil : k < fs.length := by have := HM.out; omega
      obtain ⟨bb, o, rfl, hb, hny, hcy⟩ := field_at (A := A3) (c := c3) (n := fs.length) fs (HF.out.on (T3.out.trans HT.out.2)) (by omega)
      obtain ⟨k0, k1⟩ := hcy k hil
      have HT0 := hide (HF.out.2 fs[k] (List.getElem_mem hil))
      obtain ⟨⟨fn, ts, tv⟩, hfd⟩ : ∃ v, v = fs[k] := ⟨_, rfl⟩
      have HFD := hide hfd
      rw [← hfd] at k0 k1 HT0
      simp only at k0 k1 HT0
      clear hcy hny hfd
      obtain ⟨At, ct, rfl⟩ := HT0.out.1.shape
      obtain ⟨w4, hw4⟩ : ∃ w2, w2 = wr.alloc (.cells #[.string fn, .slice At ts.length ct] 63) := ⟨_, rfl⟩
      have S4 : Hid (Lie w.heap.size w w4 [box wr.heap.size (.cells #[.string fn, .slice At ts.length ct] 63 (0, 0)), box r5 (.cells #[.string rn, .bool rc, .slice (some ⟨bb, o, none⟩) m c3] 61 (0, 0))]) := hide (by rw [hw4]; exact HL.out.alloc _)
      obtain ⟨y0, y1, _, _⟩ := cell2 (S4.out.get 0 rfl)
      have T4 : Hid (Turn (fun _ => False) w3 w4) := hide (by rw [hw4]; exact HT.out.2.alloc _)
      have HW4 := hide hw4
      have CO := hide (fun q => only_any (.slice At ts.length ct) ts q w4 (HT0.out.on (T3.out.trans T4.out)))
      have e1 : (fn.toList == [97, 99, 99, 111, 117, 110, 116]) = decide (fn = accountS) := lit_eq fn _
      have e2 : (fn.toList == [97, 109, 111, 117, 110, 116]) = decide (fn = amountS) := lit_eq fn _
      have NA := hide (more_any2 HA.out hil (r := decide (fn = accountS) && onlyB ts 4) (by rw [← HFD.out]; rfl))
      have NB := hide (more_any2 HB.out hil (r := decide (fn = amountS) && onlyB ts 3) (by rw [← HFD.out]; rfl))
      clear hw4
      generalize decide (fn = accountS) = d1 at *
      generalize decide (fn = amountS) = d2 at *
      cases a <;> cases b <;> cases d1 <;> cases d2
      all_goals
        go_wp2_with (first | (go_at_call 115; (try rw [← HW4.out]); refine (CO.out _).mono ?_; rintro e w5 ⟨rfl, rfl⟩))
        try rw [← HW4.out]
        go_roundw
        case rel => exact ⟨k + 1, _, _, by omega, by go_num, rfl, rfl, hide (by rw [← NA.out]; simp), hide (by rw [← NB.out]; simp), hide ⟨T4.out.size, T4.out⟩, hide (S4.out.erase 0)⟩
        case measure => simp [intOf]; omega
    · obtain rfl : k = m := by omega
      obtain ⟨x0, x1, x2⟩ := cell3 (HL.out.get 0 rfl)
      have HE : Hid (ob = (hr0 && !rc && a && b)) := hide (by
        have ha := HA.out
        have hb := HB.out
        rw [HM.out, List.take_length] at ha hb
        rw [HOB.out, ← ha, ← hb])
      cases hr0 <;> cases rc <;> cases a <;> cases b
      all_goals
        go_wp2_with fail
        go_ret
        exact ⟨by rw [HE.out]; rfl, turn_of HL.out⟩
end Go.Proofs.YtnljdcghaecdaaaGreatDoor
