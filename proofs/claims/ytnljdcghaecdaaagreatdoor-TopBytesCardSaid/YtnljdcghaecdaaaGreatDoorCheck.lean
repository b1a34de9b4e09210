/-
  Check.
-/
import Derived.Test.YtnljdcghaecdaaaGreatDoorRNa
import Derived.Test.YtnljdcghaecdaaaGreatDoorRBo
import Derived.Test.YtnljdcghaecdaaaGreatDoorRSt
namespace Go.Proofs.YtnljdcghaecdaaaGreatDoor
open Go.RowKit Go.Lib Go.Maps
attribute [local go_sem] Oper.semAt_some

def checkB (s : SchD) : Bool := namesB s && countsB s && doublesB s && typesB s && bottomsB s && effectsB s && undosB s && sagasB s && stepsB s && waysB s
theorem rule_idx0 (w : World) : (Instr.index 141 (.agg #[.func (.func 74) #[] #[], .func (.func 75) #[] #[], .func (.func 76) #[] #[], .func (.func 77) #[] #[], .func (.func 78) #[] #[], .func (.func 79) #[] #[], .func (.func 80) #[] #[], .func (.func 81) #[] #[], .func (.func 82) #[] #[], .func (.func 83) #[] #[]]) (.int .i64 0)).run Tryz.prog w = .ok (.func (.func 74) #[] #[]) w := by kernel_rfl
theorem rule_idx1 (w : World) : (Instr.index 141 (.agg #[.func (.func 74) #[] #[], .func (.func 75) #[] #[], .func (.func 76) #[] #[], .func (.func 77) #[] #[], .func (.func 78) #[] #[], .func (.func 79) #[] #[], .func (.func 80) #[] #[], .func (.func 81) #[] #[], .func (.func 82) #[] #[], .func (.func 83) #[] #[]]) (.int .i64 1)).run Tryz.prog w = .ok (.func (.func 75) #[] #[]) w := by kernel_rfl
theorem rule_idx2 (w : World) : (Instr.index 141 (.agg #[.func (.func 74) #[] #[], .func (.func 75) #[] #[], .func (.func 76) #[] #[], .func (.func 77) #[] #[], .func (.func 78) #[] #[], .func (.func 79) #[] #[], .func (.func 80) #[] #[], .func (.func 81) #[] #[], .func (.func 82) #[] #[], .func (.func 83) #[] #[]]) (.int .i64 2)).run Tryz.prog w = .ok (.func (.func 76) #[] #[]) w := by kernel_rfl
theorem rule_idx3 (w : World) : (Instr.index 141 (.agg #[.func (.func 74) #[] #[], .func (.func 75) #[] #[], .func (.func 76) #[] #[], .func (.func 77) #[] #[], .func (.func 78) #[] #[], .func (.func 79) #[] #[], .func (.func 80) #[] #[], .func (.func 81) #[] #[], .func (.func 82) #[] #[], .func (.func 83) #[] #[]]) (.int .i64 3)).run Tryz.prog w = .ok (.func (.func 77) #[] #[]) w := by kernel_rfl
theorem rule_idx4 (w : World) : (Instr.index 141 (.agg #[.func (.func 74) #[] #[], .func (.func 75) #[] #[], .func (.func 76) #[] #[], .func (.func 77) #[] #[], .func (.func 78) #[] #[], .func (.func 79) #[] #[], .func (.func 80) #[] #[], .func (.func 81) #[] #[], .func (.func 82) #[] #[], .func (.func 83) #[] #[]]) (.int .i64 4)).run Tryz.prog w = .ok (.func (.func 78) #[] #[]) w := by kernel_rfl
theorem rule_idx5 (w : World) : (Instr.index 141 (.agg #[.func (.func 74) #[] #[], .func (.func 75) #[] #[], .func (.func 76) #[] #[], .func (.func 77) #[] #[], .func (.func 78) #[] #[], .func (.func 79) #[] #[], .func (.func 80) #[] #[], .func (.func 81) #[] #[], .func (.func 82) #[] #[], .func (.func 83) #[] #[]]) (.int .i64 5)).run Tryz.prog w = .ok (.func (.func 79) #[] #[]) w := by kernel_rfl
theorem rule_idx6 (w : World) : (Instr.index 141 (.agg #[.func (.func 74) #[] #[], .func (.func 75) #[] #[], .func (.func 76) #[] #[], .func (.func 77) #[] #[], .func (.func 78) #[] #[], .func (.func 79) #[] #[], .func (.func 80) #[] #[], .func (.func 81) #[] #[], .func (.func 82) #[] #[], .func (.func 83) #[] #[]]) (.int .i64 6)).run Tryz.prog w = .ok (.func (.func 80) #[] #[]) w := by kernel_rfl
theorem rule_idx7 (w : World) : (Instr.index 141 (.agg #[.func (.func 74) #[] #[], .func (.func 75) #[] #[], .func (.func 76) #[] #[], .func (.func 77) #[] #[], .func (.func 78) #[] #[], .func (.func 79) #[] #[], .func (.func 80) #[] #[], .func (.func 81) #[] #[], .func (.func 82) #[] #[], .func (.func 83) #[] #[]]) (.int .i64 7)).run Tryz.prog w = .ok (.func (.func 81) #[] #[]) w := by kernel_rfl
theorem rule_idx8 (w : World) : (Instr.index 141 (.agg #[.func (.func 74) #[] #[], .func (.func 75) #[] #[], .func (.func 76) #[] #[], .func (.func 77) #[] #[], .func (.func 78) #[] #[], .func (.func 79) #[] #[], .func (.func 80) #[] #[], .func (.func 81) #[] #[], .func (.func 82) #[] #[], .func (.func 83) #[] #[]]) (.int .i64 8)).run Tryz.prog w = .ok (.func (.func 82) #[] #[]) w := by kernel_rfl
theorem rule_idx9 (w : World) : (Instr.index 141 (.agg #[.func (.func 74) #[] #[], .func (.func 75) #[] #[], .func (.func 76) #[] #[], .func (.func 77) #[] #[], .func (.func 78) #[] #[], .func (.func 79) #[] #[], .func (.func 80) #[] #[], .func (.func 81) #[] #[], .func (.func 82) #[] #[], .func (.func 83) #[] #[]]) (.int .i64 9)).run Tryz.prog w = .ok (.func (.func 83) #[] #[]) w := by kernel_rfl
def CheckTo (b : Bool) (w : World) (e : Ending) (w' : World) : Prop := ∃ (x : ByteArray) (n : Int), e = .returned (.tuple #[.string x, .int .i64 n]) ∧ (b = true → x = ⟨#[]⟩ ∧ n = 0) ∧ (b = false → n ≠ 0) ∧ Turn (fun _ => False) w w'
set_option maxRecDepth 100000 in
set_option maxHeartbeats 16000000 in
theorem check_any (s : SchD) (w : World) (h : SchAt w s) (g : GSch s) (hk : Kw w) : Calls Tryz.prog 45 #[schv s] w (CheckTo (checkB s) w) := by
  obtain ⟨Ar, nr, cr, Av, nv, cv, Ag, ng, cg, ev, HSR, HSV, HSG, HGR, HGV, HGG, hnr, hnv, hng⟩ := sch_in s h g
  have C0 := hide (fun (fb : Nat) (w' : World) (ts : List Thing) (L : Hid (Lie w.heap.size w w' (flt fb true :: ts))) => names_any s h g hk L.out)
  have C1 := hide (fun (fb : Nat) (w' : World) (ts : List Thing) (L : Hid (Lie w.heap.size w w' (flt fb true :: ts))) => counts_any s h g L.out)
  have C2 := hide (fun (fb : Nat) (w' : World) (ts : List Thing) (L : Hid (Lie w.heap.size w w' (flt fb true :: ts))) => doubles_any s h g L.out)
  have C3 := hide (fun (fb : Nat) (w' : World) (ts : List Thing) (L : Hid (Lie w.heap.size w w' (flt fb true :: ts))) => types_any s h g L.out)
  have C4 := hide (fun (fb : Nat) (w' : World) (ts : List Thing) (L : Hid (Lie w.heap.size w w' (flt fb true :: ts))) => bottoms_any s h g L.out)
  have C5 := hide (fun (fb : Nat) (w' : World) (ts : List Thing) (L : Hid (Lie w.heap.size w w' (flt fb true :: ts))) => effects_any s h g L.out)
  have C6 := hide (fun (fb : Nat) (w' : World) (ts : List Thing) (L : Hid (Lie w.heap.size w w' (flt fb true :: ts))) => undos_any s h g L.out)
  have C7 := hide (fun (fb : Nat) (w' : World) (ts : List Thing) (L : Hid (Lie w.heap.size w w' (flt fb true :: ts))) => sagas_any s h g L.out)
  have C8 := hide (fun (fb : Nat) (w' : World) (ts : List Thing) (L : Hid (Lie w.heap.size w w' (flt fb true :: ts))) => steps_any s h g L.out)
  have C9 := hide (fun (fb : Nat) (w' : World) (ts : List Thing) (L : Hid (Lie w.heap.size w w' (flt fb true :: ts))) => ways_any s h g L.out)
  have HO : Hid (checkB s = (namesB s && countsB s && doublesB s && typesB s && bottomsB s && effectsB s && undosB s && sagasB s && stepsB s && waysB s)) := hide rfl
  rw [ev] at C0 C1 C2 C3 C4 C5 C6 C7 C8 C9 ⊢
  generalize hb0 : namesB s = b0 at *
  clear hb0
  generalize hb1 : countsB s = b1 at *
  clear hb1
  generalize hb2 : doublesB s = b2 at *
  clear hb2
  generalize hb3 : typesB s = b3 at *
  clear hb3
  generalize hb4 : bottomsB s = b4 at *
  clear hb4
  generalize hb5 : effectsB s = b5 at *
  clear hb5
  generalize hb6 : undosB s = b6 at *
  clear hb6
  generalize hb7 : sagasB s = b7 at *
  clear hb7
  generalize hb8 : stepsB s = b8 at *
  clear hb8
  generalize hb9 : waysB s = b9 at *
  clear hb9
  generalize checkB s = cb at *
  obtain ⟨w1, r, SB, HW, HR, HSB, S1⟩ := lay (hide (Lie.start w)) (.cells #[.string s.name, .slice Ar nr cr, .slice Av nv cv, .slice Ag ng cg] 26)
  clear h g hk ev HSR HSV HSG HGR HGV HGG hnr hnv hng
  go_enter Tryz.func45, Tryz.ntmps45
  go_wp2_with fail
  rw [← HW.out, ← HR.out]
  go_loopw [8] (fun s8 wr => ∃ k : Nat, k ≤ 10 ∧ s8 = .int .i64 k ∧ Hid ((0 < k → b0 = true) ∧ (1 < k → b1 = true) ∧ (2 < k → b2 = true) ∧ (3 < k → b3 = true) ∧ (4 < k → b4 = true) ∧ (5 < k → b5 = true) ∧ (6 < k → b6 = true) ∧ (7 < k → b7 = true) ∧ (8 < k → b8 = true) ∧ (9 < k → b9 = true)) ∧ Hid (Lie w.heap.size w wr [SB])) (fun s8 _ => 10 - (intOf s8).toNat)
  case atStart => exact ⟨0, by omega, rfl, hide (by simp), S1⟩
  case round =>
    clear S1 HW
    obtain ⟨k, hk, rfl, HB, HL⟩ := hrel
    obtain ⟨w2, hw2⟩ : ∃ w2, w2 = wr.alloc (.cells #[.bool false, .string ⟨#[]⟩, .int .i64 0] 143) := ⟨_, rfl⟩
    obtain ⟨fb, hfb⟩ : ∃ fb, fb = wr.heap.size := ⟨_, rfl⟩
    have S3 : Hid (Lie w.heap.size w w2 [flt fb true, SB]) := hide (by rw [hw2, hfb]; exact HL.out.push ((Turn.refl _ wr).alloc _) ⟨⟨#[]⟩, 0, by simp, heap_alloc_new wr _⟩ (fun _ hk => Nat.le_of_eq hk.symm))
    have HW2 := hide hw2
    have HR2 := hide hfb
    clear hw2 hfb
    obtain ⟨z0, z1, z2, z3⟩ := at4 S3 1 rfl HSB
    rw [HW2.out] at z0 z1 z2 z3
    by_cases hlt : k < 10
    · have HGO : Hid (∀ (bk : Bool) (w4 : World) (e : Ending), RuleTo w fb [SB] (true && bk) e w4 → e = vd ∧ ∃ (x : ByteArray) (n : Int), Hid (bk = false → n ≠ 0) ∧ Hid (Lie w.heap.size w w4 [SB]) ∧ w4.cell? ⟨fb, 0, none⟩ = some (.bool (!bk)) ∧ w4.cell? ⟨fb, 1, none⟩ = some (.string x) ∧ w4.cell? ⟨fb, 2, none⟩ = some (.int .i64 n)) := hide (fun bk w4 e h => by
        obtain ⟨he, hL⟩ := h
        rw [Bool.true_and] at hL
        obtain ⟨x, n, hn, hb⟩ := hL.out.get 0 rfl
        exact ⟨he, x, n, hide hn, hide hL.out.pop, cell3 hb⟩)
      have hk10 : k = 0 ∨ k = 1 ∨ k = 2 ∨ k = 3 ∨ k = 4 ∨ k = 5 ∨ k = 6 ∨ k = 7 ∨ k = 8 ∨ k = 9 := by omega
      rcases hk10 with rfl | rfl | rfl | rfl | rfl | rfl | rfl | rfl | rfl | rfl
      · have ki := rule_idx0 wr
        go_wp2_with fail
        rw [← HW2.out, ← HR2.out]
        refine (C0.out fb _ _ S3).mono ?_
        intro e w4 HRT
        obtain ⟨rfl, x, n, HN, S4, y0, y1, y2⟩ := HGO.out _ _ _ HRT
        clear ki HRT HGO S3 C0 C1 C2 C3 C4 C5 C6 C7 C8 C9 z0 z1 z2 z3
        have HOB : Hid (b0 = false → cb = false) := hide (fun e => by rw [HO.out, e]; simp)
        have HB2 : Hid (b0 = true → (0 < 1 → b0 = true) ∧ (1 < 1 → b1 = true) ∧ (2 < 1 → b2 = true) ∧ (3 < 1 → b3 = true) ∧ (4 < 1 → b4 = true) ∧ (5 < 1 → b5 = true) ∧ (6 < 1 → b6 = true) ∧ (7 < 1 → b7 = true) ∧ (8 < 1 → b8 = true) ∧ (9 < 1 → b9 = true)) := hide (fun e => by obtain ⟨h0, h1, h2, h3, h4, h5, h6, h7, h8, h9⟩ := HB.out; exact ⟨fun _ => e, fun h => by omega, fun h => by omega, fun h => by omega, fun h => by omega, fun h => by omega, fun h => by omega, fun h => by omega, fun h => by omega, fun h => by omega⟩)
        cases b0 with
        | true =>
          go_wp2_with fail
          go_roundw
          case rel => exact ⟨1, by omega, by go_num, hide (HB2.out (by simp)), S4⟩
          case measure => simp [intOf]
        | false =>
          have S5 := hide S4.out.drew
          go_wp2_with fail
          go_quiet (fail)
          go_wp2_with fail
          go_ret2
          exact ⟨x, n, rfl, (fun e => by rw [HOB.out (by simp)] at e; cases e), (fun _ => HN.out (by simp)), Turn.drewN (turn_of S4.out) _⟩
      · have ki := rule_idx1 wr
        go_wp2_with fail
        rw [← HW2.out, ← HR2.out]
        refine (C1.out fb _ _ S3).mono ?_
        intro e w4 HRT
        obtain ⟨rfl, x, n, HN, S4, y0, y1, y2⟩ := HGO.out _ _ _ HRT
        clear ki HRT HGO S3 C0 C1 C2 C3 C4 C5 C6 C7 C8 C9 z0 z1 z2 z3
        have HOB : Hid (b1 = false → cb = false) := hide (fun e => by rw [HO.out, e]; simp)
        have HB2 : Hid (b1 = true → (0 < 2 → b0 = true) ∧ (1 < 2 → b1 = true) ∧ (2 < 2 → b2 = true) ∧ (3 < 2 → b3 = true) ∧ (4 < 2 → b4 = true) ∧ (5 < 2 → b5 = true) ∧ (6 < 2 → b6 = true) ∧ (7 < 2 → b7 = true) ∧ (8 < 2 → b8 = true) ∧ (9 < 2 → b9 = true)) := hide (fun e => by obtain ⟨h0, h1, h2, h3, h4, h5, h6, h7, h8, h9⟩ := HB.out; exact ⟨fun _ => h0 (by omega), fun _ => e, fun h => by omega, fun h => by omega, fun h => by omega, fun h => by omega, fun h => by omega, fun h => by omega, fun h => by omega, fun h => by omega⟩)
        cases b1 with
        | true =>
          go_wp2_with fail
          go_roundw
          case rel => exact ⟨2, by omega, by go_num, hide (HB2.out (by simp)), S4⟩
          case measure => simp [intOf]
        | false =>
          have S5 := hide S4.out.drew
          go_wp2_with fail
          go_quiet (fail)
          go_wp2_with fail
          go_ret2
          exact ⟨x, n, rfl, (fun e => by rw [HOB.out (by simp)] at e; cases e), (fun _ => HN.out (by simp)), Turn.drewN (turn_of S4.out) _⟩
      · have ki := rule_idx2 wr
        go_wp2_with fail
        rw [← HW2.out, ← HR2.out]
        refine (C2.out fb _ _ S3).mono ?_
        intro e w4 HRT
        obtain ⟨rfl, x, n, HN, S4, y0, y1, y2⟩ := HGO.out _ _ _ HRT
        clear ki HRT HGO S3 C0 C1 C2 C3 C4 C5 C6 C7 C8 C9 z0 z1 z2 z3
        have HOB : Hid (b2 = false → cb = false) := hide (fun e => by rw [HO.out, e]; simp)
        have HB2 : Hid (b2 = true → (0 < 3 → b0 = true) ∧ (1 < 3 → b1 = true) ∧ (2 < 3 → b2 = true) ∧ (3 < 3 → b3 = true) ∧ (4 < 3 → b4 = true) ∧ (5 < 3 → b5 = true) ∧ (6 < 3 → b6 = true) ∧ (7 < 3 → b7 = true) ∧ (8 < 3 → b8 = true) ∧ (9 < 3 → b9 = true)) := hide (fun e => by obtain ⟨h0, h1, h2, h3, h4, h5, h6, h7, h8, h9⟩ := HB.out; exact ⟨fun _ => h0 (by omega), fun _ => h1 (by omega), fun _ => e, fun h => by omega, fun h => by omega, fun h => by omega, fun h => by omega, fun h => by omega, fun h => by omega, fun h => by omega⟩)
        cases b2 with
        | true =>
          go_wp2_with fail
          go_roundw
          case rel => exact ⟨3, by omega, by go_num, hide (HB2.out (by simp)), S4⟩
          case measure => simp [intOf]
        | false =>
          have S5 := hide S4.out.drew
          go_wp2_with fail
          go_quiet (fail)
          go_wp2_with fail
          go_ret2
          exact ⟨x, n, rfl, (fun e => by rw [HOB.out (by simp)] at e; cases e), (fun _ => HN.out (by simp)), Turn.drewN (turn_of S4.out) _⟩
      · have ki := rule_idx3 wr
        go_wp2_with fail
        rw [← HW2.out, ← HR2.out]
        refine (C3.out fb _ _ S3).mono ?_
        intro e w4 HRT
        obtain ⟨rfl, x, n, HN, S4, y0, y1, y2⟩ := HGO.out _ _ _ HRT
        clear ki HRT HGO S3 C0 C1 C2 C3 C4 C5 C6 C7 C8 C9 z0 z1 z2 z3
        have HOB : Hid (b3 = false → cb = false) := hide (fun e => by rw [HO.out, e]; simp)
        have HB2 : Hid (b3 = true → (0 < 4 → b0 = true) ∧ (1 < 4 → b1 = true) ∧ (2 < 4 → b2 = true) ∧ (3 < 4 → b3 = true) ∧ (4 < 4 → b4 = true) ∧ (5 < 4 → b5 = true) ∧ (6 < 4 → b6 = true) ∧ (7 < 4 → b7 = true) ∧ (8 < 4 → b8 = true) ∧ (9 < 4 → b9 = true)) := hide (fun e => by obtain ⟨h0, h1, h2, h3, h4, h5, h6, h7, h8, h9⟩ := HB.out; exact ⟨fun _ => h0 (by omega), fun _ => h1 (by omega), fun _ => h2 (by omega), fun _ => e, fun h => by omega, fun h => by omega, fun h => by omega, fun h => by omega, fun h => by omega, fun h => by omega⟩)
        cases b3 with
        | true =>
          go_wp2_with fail
          go_roundw
          case rel => exact ⟨4, by omega, by go_num, hide (HB2.out (by simp)), S4⟩
          case measure => simp [intOf]
        | false =>
          have S5 := hide S4.out.drew
          go_wp2_with fail
          go_quiet (fail)
          go_wp2_with fail
          go_ret2
          exact ⟨x, n, rfl, (fun e => by rw [HOB.out (by simp)] at e; cases e), (fun _ => HN.out (by simp)), Turn.drewN (turn_of S4.out) _⟩
      · have ki := rule_idx4 wr
        go_wp2_with fail
        rw [← HW2.out, ← HR2.out]
        refine (C4.out fb _ _ S3).mono ?_
        intro e w4 HRT
        obtain ⟨rfl, x, n, HN, S4, y0, y1, y2⟩ := HGO.out _ _ _ HRT
        clear ki HRT HGO S3 C0 C1 C2 C3 C4 C5 C6 C7 C8 C9 z0 z1 z2 z3
        have HOB : Hid (b4 = false → cb = false) := hide (fun e => by rw [HO.out, e]; simp)
        have HB2 : Hid (b4 = true → (0 < 5 → b0 = true) ∧ (1 < 5 → b1 = true) ∧ (2 < 5 → b2 = true) ∧ (3 < 5 → b3 = true) ∧ (4 < 5 → b4 = true) ∧ (5 < 5 → b5 = true) ∧ (6 < 5 → b6 = true) ∧ (7 < 5 → b7 = true) ∧ (8 < 5 → b8 = true) ∧ (9 < 5 → b9 = true)) := hide (fun e => by obtain ⟨h0, h1, h2, h3, h4, h5, h6, h7, h8, h9⟩ := HB.out; exact ⟨fun _ => h0 (by omega), fun _ => h1 (by omega), fun _ => h2 (by omega), fun _ => h3 (by omega), fun _ => e, fun h => by omega, fun h => by omega, fun h => by omega, fun h => by omega, fun h => by omega⟩)
        cases b4 with
        | true =>
          go_wp2_with fail
          go_roundw
          case rel => exact ⟨5, by omega, by go_num, hide (HB2.out (by simp)), S4⟩
          case measure => simp [intOf]
        | false =>
          have S5 := hide S4.out.drew
          go_wp2_with fail
          go_quiet (fail)
          go_wp2_with fail
          go_ret2
          exact ⟨x, n, rfl, (fun e => by rw [HOB.out (by simp)] at e; cases e), (fun _ => HN.out (by simp)), Turn.drewN (turn_of S4.out) _⟩
      · have ki := rule_idx5 wr
        go_wp2_with fail
        rw [← HW2.out, ← HR2.out]
        refine (C5.out fb _ _ S3).mono ?_
        intro e w4 HRT
        obtain ⟨rfl, x, n, HN, S4, y0, y1, y2⟩ := HGO.out _ _ _ HRT
        clear ki HRT HGO S3 C0 C1 C2 C3 C4 C5 C6 C7 C8 C9 z0 z1 z2 z3
        have HOB : Hid (b5 = false → cb = false) := hide (fun e => by rw [HO.out, e]; simp)
        have HB2 : Hid (b5 = true → (0 < 6 → b0 = true) ∧ (1 < 6 → b1 = true) ∧ (2 < 6 → b2 = true) ∧ (3 < 6 → b3 = true) ∧ (4 < 6 → b4 = true) ∧ (5 < 6 → b5 = true) ∧ (6 < 6 → b6 = true) ∧ (7 < 6 → b7 = true) ∧ (8 < 6 → b8 = true) ∧ (9 < 6 → b9 = true)) := hide (fun e => by obtain ⟨h0, h1, h2, h3, h4, h5, h6, h7, h8, h9⟩ := HB.out; exact ⟨fun _ => h0 (by omega), fun _ => h1 (by omega), fun _ => h2 (by omega), fun _ => h3 (by omega), fun _ => h4 (by omega), fun _ => e, fun h => by omega, fun h => by omega, fun h => by omega, fun h => by omega⟩)
        cases b5 with
        | true =>
          go_wp2_with fail
          go_roundw
          case rel => exact ⟨6, by omega, by go_num, hide (HB2.out (by simp)), S4⟩
          case measure => simp [intOf]
        | false =>
          have S5 := hide S4.out.drew
          go_wp2_with fail
          go_quiet (fail)
          go_wp2_with fail
          go_ret2
          exact ⟨x, n, rfl, (fun e => by rw [HOB.out (by simp)] at e; cases e), (fun _ => HN.out (by simp)), Turn.drewN (turn_of S4.out) _⟩
      · have ki := rule_idx6 wr
        go_wp2_with fail
        rw [← HW2.out, ← HR2.out]
        refine (C6.out fb _ _ S3).mono ?_
        intro e w4 HRT
        obtain ⟨rfl, x, n, HN, S4, y0, y1, y2⟩ := HGO.out _ _ _ HRT
        clear ki HRT HGO S3 C0 C1 C2 C3 C4 C5 C6 C7 C8 C9 z0 z1 z2 z3
        have HOB : Hid (b6 = false → cb = false) := hide (fun e => by rw [HO.out, e]; simp)
        have HB2 : Hid (b6 = true → (0 < 7 → b0 = true) ∧ (1 < 7 → b1 = true) ∧ (2 < 7 → b2 = true) ∧ (3 < 7 → b3 = true) ∧ (4 < 7 → b4 = true) ∧ (5 < 7 → b5 = true) ∧ (6 < 7 → b6 = true) ∧ (7 < 7 → b7 = true) ∧ (8 < 7 → b8 = true) ∧ (9 < 7 → b9 = true)) := hide (fun e => by obtain ⟨h0, h1, h2, h3, h4, h5, h6, h7, h8, h9⟩ := HB.out; exact ⟨fun _ => h0 (by omega), fun _ => h1 (by omega), fun _ => h2 (by omega), fun _ => h3 (by omega), fun _ => h4 (by omega), fun _ => h5 (by omega), fun _ => e, fun h => by omega, fun h => by omega, fun h => by omega⟩)
        cases b6 with
        | true =>
          go_wp2_with fail
          go_roundw
          case rel => exact ⟨7, by omega, by go_num, hide (HB2.out (by simp)), S4⟩
          case measure => simp [intOf]
        | false =>
          have S5 := hide S4.out.drew
          go_wp2_with fail
          go_quiet (fail)
          go_wp2_with fail
          go_ret2
          exact ⟨x, n, rfl, (fun e => by rw [HOB.out (by simp)] at e; cases e), (fun _ => HN.out (by simp)), Turn.drewN (turn_of S4.out) _⟩
      · have ki := rule_idx7 wr
        go_wp2_with fail
        rw [← HW2.out, ← HR2.out]
        refine (C7.out fb _ _ S3).mono ?_
        intro e w4 HRT
        obtain ⟨rfl, x, n, HN, S4, y0, y1, y2⟩ := HGO.out _ _ _ HRT
        clear ki HRT HGO S3 C0 C1 C2 C3 C4 C5 C6 C7 C8 C9 z0 z1 z2 z3
        have HOB : Hid (b7 = false → cb = false) := hide (fun e => by rw [HO.out, e]; simp)
        have HB2 : Hid (b7 = true → (0 < 8 → b0 = true) ∧ (1 < 8 → b1 = true) ∧ (2 < 8 → b2 = true) ∧ (3 < 8 → b3 = true) ∧ (4 < 8 → b4 = true) ∧ (5 < 8 → b5 = true) ∧ (6 < 8 → b6 = true) ∧ (7 < 8 → b7 = true) ∧ (8 < 8 → b8 = true) ∧ (9 < 8 → b9 = true)) := hide (fun e => by obtain ⟨h0, h1, h2, h3, h4, h5, h6, h7, h8, h9⟩ := HB.out; exact ⟨fun _ => h0 (by omega), fun _ => h1 (by omega), fun _ => h2 (by omega), fun _ => h3 (by omega), fun _ => h4 (by omega), fun _ => h5 (by omega), fun _ => h6 (by omega), fun _ => e, fun h => by omega, fun h => by omega⟩)
        cases b7 with
        | true =>
          go_wp2_with fail
          go_roundw
          case rel => exact ⟨8, by omega, by go_num, hide (HB2.out (by simp)), S4⟩
          case measure => simp [intOf]
        | false =>
          have S5 := hide S4.out.drew
          go_wp2_with fail
          go_quiet (fail)
          go_wp2_with fail
          go_ret2
          exact ⟨x, n, rfl, (fun e => by rw [HOB.out (by simp)] at e; cases e), (fun _ => HN.out (by simp)), Turn.drewN (turn_of S4.out) _⟩
      · have ki := rule_idx8 wr
        go_wp2_with fail
        rw [← HW2.out, ← HR2.out]
        refine (C8.out fb _ _ S3).mono ?_
        intro e w4 HRT
        obtain ⟨rfl, x, n, HN, S4, y0, y1, y2⟩ := HGO.out _ _ _ HRT
        clear ki HRT HGO S3 C0 C1 C2 C3 C4 C5 C6 C7 C8 C9 z0 z1 z2 z3
        have HOB : Hid (b8 = false → cb = false) := hide (fun e => by rw [HO.out, e]; simp)
        have HB2 : Hid (b8 = true → (0 < 9 → b0 = true) ∧ (1 < 9 → b1 = true) ∧ (2 < 9 → b2 = true) ∧ (3 < 9 → b3 = true) ∧ (4 < 9 → b4 = true) ∧ (5 < 9 → b5 = true) ∧ (6 < 9 → b6 = true) ∧ (7 < 9 → b7 = true) ∧ (8 < 9 → b8 = true) ∧ (9 < 9 → b9 = true)) := hide (fun e => by obtain ⟨h0, h1, h2, h3, h4, h5, h6, h7, h8, h9⟩ := HB.out; exact ⟨fun _ => h0 (by omega), fun _ => h1 (by omega), fun _ => h2 (by omega), fun _ => h3 (by omega), fun _ => h4 (by omega), fun _ => h5 (by omega), fun _ => h6 (by omega), fun _ => h7 (by omega), fun _ => e, fun h => by omega⟩)
        cases b8 with
        | true =>
          go_wp2_with fail
          go_roundw
          case rel => exact ⟨9, by omega, by go_num, hide (HB2.out (by simp)), S4⟩
          case measure => simp [intOf]
        | false =>
          have S5 := hide S4.out.drew
          go_wp2_with fail
          go_quiet (fail)
          go_wp2_with fail
          go_ret2
          exact ⟨x, n, rfl, (fun e => by rw [HOB.out (by simp)] at e; cases e), (fun _ => HN.out (by simp)), Turn.drewN (turn_of S4.out) _⟩
      · have ki := rule_idx9 wr
        go_wp2_with fail
        rw [← HW2.out, ← HR2.out]
        refine (C9.out fb _ _ S3).mono ?_
        intro e w4 HRT
        obtain ⟨rfl, x, n, HN, S4, y0, y1, y2⟩ := HGO.out _ _ _ HRT
        clear ki HRT HGO S3 C0 C1 C2 C3 C4 C5 C6 C7 C8 C9 z0 z1 z2 z3
        have HOB : Hid (b9 = false → cb = false) := hide (fun e => by rw [HO.out, e]; simp)
        have HB2 : Hid (b9 = true → (0 < 10 → b0 = true) ∧ (1 < 10 → b1 = true) ∧ (2 < 10 → b2 = true) ∧ (3 < 10 → b3 = true) ∧ (4 < 10 → b4 = true) ∧ (5 < 10 → b5 = true) ∧ (6 < 10 → b6 = true) ∧ (7 < 10 → b7 = true) ∧ (8 < 10 → b8 = true) ∧ (9 < 10 → b9 = true)) := hide (fun e => by obtain ⟨h0, h1, h2, h3, h4, h5, h6, h7, h8, h9⟩ := HB.out; exact ⟨fun _ => h0 (by omega), fun _ => h1 (by omega), fun _ => h2 (by omega), fun _ => h3 (by omega), fun _ => h4 (by omega), fun _ => h5 (by omega), fun _ => h6 (by omega), fun _ => h7 (by omega), fun _ => h8 (by omega), fun _ => e⟩)
        cases b9 with
        | true =>
          go_wp2_with fail
          go_roundw
          case rel => exact ⟨10, by omega, by go_num, hide (HB2.out (by simp)), S4⟩
          case measure => simp [intOf]
        | false =>
          have S5 := hide S4.out.drew
          go_wp2_with fail
          go_quiet (fail)
          go_wp2_with fail
          go_ret2
          exact ⟨x, n, rfl, (fun e => by rw [HOB.out (by simp)] at e; cases e), (fun _ => HN.out (by simp)), Turn.drewN (turn_of S4.out) _⟩
    · obtain rfl : k = 10 := by omega
      have HCB : Hid (cb = true) := hide (by obtain ⟨h0, h1, h2, h3, h4, h5, h6, h7, h8, h9⟩ := HB.out; rw [HO.out, h0 (by omega), h1 (by omega), h2 (by omega), h3 (by omega), h4 (by omega), h5 (by omega), h6 (by omega), h7 (by omega), h8 (by omega), h9 (by omega)]; rfl)
      go_wp2_with fail
      go_ret2
      exact ⟨⟨#[]⟩, 0, rfl, (fun _ => ⟨rfl, rfl⟩), (fun e => by rw [HCB.out] at e; cases e), turn_of HL.out⟩
end Go.Proofs.YtnljdcghaecdaaaGreatDoor
