/-
  One token taken, under each of three tests. (Printed by mkone.py.)
-/
import Derived.Test.YtnljdcghaecdaaaGreatDoorPsr
namespace Go.Proofs.YtnljdcghaecdaaaGreatDoor
open Go.RowKit Go.Lib Go.Maps
attribute [local go_sem] Oper.semAt_some
section
variable {W w : World} {r : Nat} {t : TokD} {l : List TokD} {ts : List Thing}
set_option maxRecDepth 100000 in
theorem right_name (hk : Hid (Kw w)) (hn : nameB t.text = true) : Calls Tryz.prog 69 #[tokv t] w fun e w' => e = .returned (.bool true) ∧ Turn (fun _ => False) w w' := by
  obtain ⟨w1, hw1⟩ : ∃ w1, w1 = w.alloc (.cells (tokc t).toArray 97) := ⟨_, rfl⟩
  have T1 : Hid (Turn (fun _ => False) w w1) := hide (by rw [hw1]; exact (Turn.refl _ w).alloc _)
  have CN := hide (name_any t.text w1 (kw_on hk T1.out))
  rw [hn] at CN
  obtain ⟨y0, y1, y2, y3⟩ := cell4 (w := w1) (b := w.heap.size) (by rw [hw1]; exact heap_alloc_new w (.cells (tokc t).toArray 97))
  have HW1 := hide hw1
  clear hw1
  go_enter Tryz.func69, Tryz.ntmps69
  go_upto_region 1 with (fail)
  rw [show w.alloc (.cells #[.int .u8 t.kind, .string t.text, .int .i64 t.num, .int .i64 t.pos] 97) = w1 from HW1.out.symm]
  go_wp2_with fail
  refine CN.out.mono ?_
  rintro e w2 ⟨rfl, T2⟩
  go_wp2_with fail
  go_ret
  exact ⟨rfl, T1.out.step T2 (fun _ _ h => h)⟩
set_option maxRecDepth 100000 in
theorem right_yes : Calls Tryz.prog 73 #[tokv t] w fun e w' => e = .returned (.bool true) ∧ Turn (fun _ => False) w w' := by
  go_enter Tryz.func73, Tryz.ntmps73
  go_wp2_with fail
  go_ret
  exact ⟨rfl, (Turn.refl _ w).alloc _⟩
set_option maxRecDepth 100000 in
set_option maxHeartbeats 8000000 in
theorem one_name (hk : Hid (t.kind = 1)) (hkw : Hid (Kw W)) (hn : nameB t.text = true) (h : Hid (At W r (t :: l) w ts)) : Calls Tryz.prog 68 #[.pointer (some ⟨r, 0, none⟩), .int .u8 1, .func (.func 69) #[] #[]] w fun e w' => e = .returned (tokv t) ∧ Hid (At W r l w' ts) := by
  obtain ⟨b, o, c, hc, hb, HR, HL, _⟩ := at_open h.out
  obtain ⟨w1, r1, RB, HW1, HR1, HRB, S0⟩ := lay HL (.cells #[.int .u8 0, .string ⟨#[]⟩, .int .i64 0, .int .i64 0] 97)
  rw [HRB.out] at S0
  have S1 := lie_sw S0
  have A1 : Hid (At W r (t :: l) w1 (box r1 (.cells #[.int .u8 0, .string ⟨#[]⟩, .int .i64 0, .int .i64 0] 97) :: ts)) := hide ⟨_, _, hc, HR.out, S1.out⟩
  have CF := hide (right_name (kw_on hkw (lie_turn S1)) hn)
  clear h HL HR S0 S1 hc hb
  obtain ⟨b, o, c, hc, hb, HR, HL, k0, k1, k2, k3⟩ := at_open A1.out
  obtain ⟨c0, c1, f0, f1⟩ := cell2 (HL.out.get 0 rfl)
  have hkk : (t.kind != 1) = false := by simp [hk.out]
  have hlen : (((l.length + 1 : Nat) : Int) == 0) = false := by rw [beq_eq_false_iff_ne]; omega
  go_enter Tryz.func68, Tryz.ntmps68
  go_upto_region 1 with (fail)
  rw [← HW1.out, ← HR1.out]
  go_wp2_with fail
  refine CF.out.mono ?_
  rintro e w2 ⟨rfl, T2⟩
  have S2 := hide (HL.out.stay T2)
  have A2 := hide (show At W r (t :: l) w2 _ from ⟨_, _, hc, HR.out, S2.out⟩)
  clear c0 c1 f0 f1 k0 k1 k2 k3 T2 A1 CF HL HW1 HR1 HRB S2
  go_upto_region 3 with (fail)
  obtain ⟨b, o, c, hc, hb, HR, HL, k0, k1, k2, k3⟩ := at_open A2.out
  obtain ⟨c0, c1, f0, f1⟩ := cell2 (HL.out.get 0 rfl)
  obtain ⟨y0, y1, y2, y3⟩ := cell4 (HL.out.get 1 rfl)
  have g0 := (box_cell (HL.out.get 1 rfl) 0).2
  have g1 := (box_cell (HL.out.get 1 rfl) 1).2
  have g2 := (box_cell (HL.out.get 1 rfl) 2).2
  have g3 := (box_cell (HL.out.get 1 rfl) 3).2
  have n1 : ¬ r = r1 := HL.out.apart 0 1 _ _ (by decide) rfl rfl r rfl
  have n2 : ¬ r1 = r := fun e => n1 e.symm
  have q1 : W.heap.size ≤ r := HL.out.high 0 _ rfl r rfl
  have q2 : W.heap.size ≤ r1 := HL.out.high 1 _ rfl r1 rfl
  have n3 : ¬ b = r := by omega
  have n4 : ¬ r = b := by omega
  have n5 : ¬ b = r1 := by omega
  have n6 : ¬ r1 = b := by omega
  have HR3 := tok_tail HR.out hc
  have SZ := fun v => hide (((((HL.out.setBox 1 rfl 0 (.int .u8 t.kind)).setBox 1 rfl 1 (.string t.text)).setBox 1 rfl 2 (.int .i64 t.num)).setBox 1 rfl 3 (.int .i64 t.pos)).setBox 0 rfl 0 v).drew
  clear A2 q1 q2
  by_cases h1 : c = 1
  · rw [if_pos h1] at HR3
    have HR2 := hide HR3
    clear HR3
    subst h1
    obtain rfl : l = [] := List.length_eq_zero_iff.1 (by omega)
    have S4 := SZ (.slice (some ⟨b, o, none⟩) 0 0)
    clear SZ
    go_region
    generalize (((((w2.setCell ⟨r1, 0, none⟩ (.int .u8 t.kind)).setCell ⟨r1, 1, none⟩ (.string t.text)).setCell ⟨r1, 2, none⟩ (.int .i64 t.num)).setCell ⟨r1, 3, none⟩ (.int .i64 t.pos)).setCell ⟨r, 0, none⟩ (.slice (some ⟨b, o, none⟩) 0 0)).drew = wz at *
    clear k0 k1 k2 k3 c0 c1 f0 f1 y0 y1 y2 y3 g0 g1 g2 g3 n1 n2 n3 n4 n5 n6 HL
    obtain ⟨y0, y1, y2, y3⟩ := cell4 (S4.out.get 1 rfl)
    go_wp2_with fail
    try simp only [Exit.inBlock, Exit.then]
    refine bodyPost_ret (v := tokv t) (by simp [results, Tryz.results68, go_sem, y0, y1, y2, y3]) rfl ?_
    exact ⟨rfl, hide ⟨_, _, by simp, HR2.out, S4.out.erase 1⟩⟩
  · rw [if_neg h1] at HR3
    have HR2 := hide HR3
    clear HR3
    skip
    have S4 := SZ (.slice (some ⟨b, o + 4, none⟩) l.length (c - 1))
    clear SZ
    go_region
    generalize (((((w2.setCell ⟨r1, 0, none⟩ (.int .u8 t.kind)).setCell ⟨r1, 1, none⟩ (.string t.text)).setCell ⟨r1, 2, none⟩ (.int .i64 t.num)).setCell ⟨r1, 3, none⟩ (.int .i64 t.pos)).setCell ⟨r, 0, none⟩ (.slice (some ⟨b, o + 4, none⟩) l.length (c - 1))).drew = wz at *
    clear k0 k1 k2 k3 c0 c1 f0 f1 y0 y1 y2 y3 g0 g1 g2 g3 n1 n2 n3 n4 n5 n6 HL
    obtain ⟨y0, y1, y2, y3⟩ := cell4 (S4.out.get 1 rfl)
    go_wp2_with fail
    try simp only [Exit.inBlock, Exit.then]
    refine bodyPost_ret (v := tokv t) (by simp [results, Tryz.results68, go_sem, y0, y1, y2, y3]) rfl ?_
    exact ⟨rfl, hide ⟨_, _, by omega, HR2.out, S4.out.erase 1⟩⟩
set_option maxRecDepth 100000 in
set_option maxHeartbeats 8000000 in
theorem one_num (hk : Hid (t.kind = 2)) (h : Hid (At W r (t :: l) w ts)) : Calls Tryz.prog 68 #[.pointer (some ⟨r, 0, none⟩), .int .u8 2, .func (.func 73) #[] #[]] w fun e w' => e = .returned (tokv t) ∧ Hid (At W r l w' ts) := by
  obtain ⟨b, o, c, hc, hb, HR, HL, _⟩ := at_open h.out
  obtain ⟨w1, r1, RB, HW1, HR1, HRB, S0⟩ := lay HL (.cells #[.int .u8 0, .string ⟨#[]⟩, .int .i64 0, .int .i64 0] 97)
  rw [HRB.out] at S0
  have S1 := lie_sw S0
  have A1 : Hid (At W r (t :: l) w1 (box r1 (.cells #[.int .u8 0, .string ⟨#[]⟩, .int .i64 0, .int .i64 0] 97) :: ts)) := hide ⟨_, _, hc, HR.out, S1.out⟩
  have CF := hide (right_yes (t := t) (w := w1))
  clear h HL HR S0 S1 hc hb
  obtain ⟨b, o, c, hc, hb, HR, HL, k0, k1, k2, k3⟩ := at_open A1.out
  obtain ⟨c0, c1, f0, f1⟩ := cell2 (HL.out.get 0 rfl)
  have hkk : (t.kind != 2) = false := by simp [hk.out]
  have hlen : (((l.length + 1 : Nat) : Int) == 0) = false := by rw [beq_eq_false_iff_ne]; omega
  go_enter Tryz.func68, Tryz.ntmps68
  go_upto_region 1 with (fail)
  rw [← HW1.out, ← HR1.out]
  go_wp2_with fail
  refine CF.out.mono ?_
  rintro e w2 ⟨rfl, T2⟩
  have S2 := hide (HL.out.stay T2)
  have A2 := hide (show At W r (t :: l) w2 _ from ⟨_, _, hc, HR.out, S2.out⟩)
  clear c0 c1 f0 f1 k0 k1 k2 k3 T2 A1 CF HL HW1 HR1 HRB S2
  go_upto_region 3 with (fail)
  obtain ⟨b, o, c, hc, hb, HR, HL, k0, k1, k2, k3⟩ := at_open A2.out
  obtain ⟨c0, c1, f0, f1⟩ := cell2 (HL.out.get 0 rfl)
  obtain ⟨y0, y1, y2, y3⟩ := cell4 (HL.out.get 1 rfl)
  have g0 := (box_cell (HL.out.get 1 rfl) 0).2
  have g1 := (box_cell (HL.out.get 1 rfl) 1).2
  have g2 := (box_cell (HL.out.get 1 rfl) 2).2
  have g3 := (box_cell (HL.out.get 1 rfl) 3).2
  have n1 : ¬ r = r1 := HL.out.apart 0 1 _ _ (by decide) rfl rfl r rfl
  have n2 : ¬ r1 = r := fun e => n1 e.symm
  have q1 : W.heap.size ≤ r := HL.out.high 0 _ rfl r rfl
  have q2 : W.heap.size ≤ r1 := HL.out.high 1 _ rfl r1 rfl
  have n3 : ¬ b = r := by omega
  have n4 : ¬ r = b := by omega
  have n5 : ¬ b = r1 := by omega
  have n6 : ¬ r1 = b := by omega
  have HR3 := tok_tail HR.out hc
  have SZ := fun v => hide (((((HL.out.setBox 1 rfl 0 (.int .u8 t.kind)).setBox 1 rfl 1 (.string t.text)).setBox 1 rfl 2 (.int .i64 t.num)).setBox 1 rfl 3 (.int .i64 t.pos)).setBox 0 rfl 0 v).drew
  clear A2 q1 q2
  by_cases h1 : c = 1
  · rw [if_pos h1] at HR3
    have HR2 := hide HR3
    clear HR3
    subst h1
    obtain rfl : l = [] := List.length_eq_zero_iff.1 (by omega)
    have S4 := SZ (.slice (some ⟨b, o, none⟩) 0 0)
    clear SZ
    go_region
    generalize (((((w2.setCell ⟨r1, 0, none⟩ (.int .u8 t.kind)).setCell ⟨r1, 1, none⟩ (.string t.text)).setCell ⟨r1, 2, none⟩ (.int .i64 t.num)).setCell ⟨r1, 3, none⟩ (.int .i64 t.pos)).setCell ⟨r, 0, none⟩ (.slice (some ⟨b, o, none⟩) 0 0)).drew = wz at *
    clear k0 k1 k2 k3 c0 c1 f0 f1 y0 y1 y2 y3 g0 g1 g2 g3 n1 n2 n3 n4 n5 n6 HL
    obtain ⟨y0, y1, y2, y3⟩ := cell4 (S4.out.get 1 rfl)
    go_wp2_with fail
    try simp only [Exit.inBlock, Exit.then]
    refine bodyPost_ret (v := tokv t) (by simp [results, Tryz.results68, go_sem, y0, y1, y2, y3]) rfl ?_
    exact ⟨rfl, hide ⟨_, _, by simp, HR2.out, S4.out.erase 1⟩⟩
  · rw [if_neg h1] at HR3
    have HR2 := hide HR3
    clear HR3
    skip
    have S4 := SZ (.slice (some ⟨b, o + 4, none⟩) l.length (c - 1))
    clear SZ
    go_region
    generalize (((((w2.setCell ⟨r1, 0, none⟩ (.int .u8 t.kind)).setCell ⟨r1, 1, none⟩ (.string t.text)).setCell ⟨r1, 2, none⟩ (.int .i64 t.num)).setCell ⟨r1, 3, none⟩ (.int .i64 t.pos)).setCell ⟨r, 0, none⟩ (.slice (some ⟨b, o + 4, none⟩) l.length (c - 1))).drew = wz at *
    clear k0 k1 k2 k3 c0 c1 f0 f1 y0 y1 y2 y3 g0 g1 g2 g3 n1 n2 n3 n4 n5 n6 HL
    obtain ⟨y0, y1, y2, y3⟩ := cell4 (S4.out.get 1 rfl)
    go_wp2_with fail
    try simp only [Exit.inBlock, Exit.then]
    refine bodyPost_ret (v := tokv t) (by simp [results, Tryz.results68, go_sem, y0, y1, y2, y3]) rfl ?_
    exact ⟨rfl, hide ⟨_, _, by omega, HR2.out, S4.out.erase 1⟩⟩
set_option maxRecDepth 100000 in
set_option maxHeartbeats 4000000 in
theorem right_words (rb : Nat) (sv : Value) (xs : List ByteArray) (hx : t.text ∈ xs) (hn : xs.length ≤ 1000) (hb : Hid (w.cell? ⟨rb, 0, none⟩ = some sv)) (hrb : rb < w.heap.size) (h : Hid (Rd w 1 sv xs.length (xs.flatMap sc))) :
    Calls Tryz.prog 70 #[tokv t, .pointer (some ⟨rb, 0, none⟩)] w fun e w' => e = .returned (.bool true) ∧ Turn (fun _ => False) w w' := by
  obtain ⟨w1, hw1⟩ : ∃ w1, w1 = w.alloc (.cells (tokc t).toArray 97) := ⟨_, rfl⟩
  have T1 : Hid (Turn (fun _ => False) w w1) := hide (by rw [hw1]; exact (Turn.refl _ w).alloc _)
  have H1 : Hid (Rd w1 1 sv xs.length (xs.flatMap sc)) := hide (h.out.turn T1.out (fun _ _ _ h => h))
  have b0 : w1.cell? ⟨rb, 0, none⟩ = some sv := (T1.out.cell (p := ⟨rb, 0, none⟩) hrb (fun h => h)).trans hb.out
  obtain ⟨y0, y1, y2, y3⟩ := cell4 (w := w1) (b := w.heap.size) (by rw [hw1]; exact heap_alloc_new w (.cells (tokc t).toArray 97))
  obtain ⟨A, c, rfl⟩ := H1.out.shape
  have HW1 := hide hw1
  clear hw1 h hb
  obtain ⟨n, hnn⟩ : ∃ n, n = xs.length := ⟨_, rfl⟩
  rw [← hnn] at b0 hn
  have HN := hide hnn
  clear hnn
  have HX := hide hx
  clear hx
  go_enter Tryz.func70, Tryz.ntmps70
  go_upto_region 1 with (fail)
  rw [show w.alloc (.cells #[.int .u8 t.kind, .string t.text, .int .i64 t.num, .int .i64 t.pos] 97) = w1 from HW1.out.symm]
  go_wp2_with fail
  go_loop [5, 8] (fun _ s => ∃ i : Nat, i ≤ n ∧ s = .int .i64 i ∧ Hid (∀ k (hk : k < xs.length), k < i → xs[k] ≠ t.text)) (fun _ s => n - (intOf s).toNat)
  case atStart => exact ⟨0, by omega, rfl, hide (fun k _ h => by omega)⟩
  case round =>
    obtain ⟨i, hi, rfl, HI⟩ := hrel
    by_cases hlt : i < n
    · have hil : i < xs.length := by have := HN.out; omega
      obtain ⟨b, o, rfl, hbb, hc⟩ := txt_at xs (by have := H1.out; rwa [← HN.out] at this ⊢) (by omega)
      have k1 := hc i hil
      by_cases hx : xs[i] = t.text
      · rw [hx] at k1
        have e1 : (t.text.toList == t.text.toList) = true := by simp
        clear hc hx
        go_wp2_with fail
        go_ret
        exact ⟨rfl, T1.out⟩
      · have e1 : (t.text.toList == (xs[i]).toList) = false := by rw [str_eq]; exact decide_eq_false (fun e => hx e.symm)
        have HI2 : Hid (∀ k (hk : k < xs.length), k < i + 1 → xs[k] ≠ t.text) := hide (fun k hk h => by
          rcases Nat.lt_or_ge k i with h3 | h3
          · exact HI.out k hk h3
          · obtain rfl : k = i := by omega
            exact hx)
        generalize xs[i] = y at *
        clear hc hx HI
        go_wp2_with fail
        go_round
        case rel => exact ⟨i + 1, by omega, by go_num, HI2⟩
        case measure => simp [intOf]; omega
    · exfalso
      obtain ⟨k, hk, e⟩ := List.getElem_of_mem HX.out
      exact HI.out k hk (by have := HN.out; omega) e
set_option maxRecDepth 100000 in
set_option maxHeartbeats 8000000 in
theorem one_words (hk : Hid (t.kind = 1)) (rb : Nat) (hcf : ∀ w2, Turn (fun _ => False) w w2 → Calls Tryz.prog 70 #[tokv t, .pointer (some ⟨rb, 0, none⟩)] w2 fun e w3 => e = .returned (.bool true) ∧ Turn (fun _ => False) w2 w3) (h : Hid (At W r (t :: l) w ts)) : Calls Tryz.prog 68 #[.pointer (some ⟨r, 0, none⟩), .int .u8 1, .func (.func 70) #[] #[.pointer (some ⟨rb, 0, none⟩)]] w fun e w' => e = .returned (tokv t) ∧ Hid (At W r l w' ts) := by
  obtain ⟨b, o, c, hc, hb, HR, HL, _⟩ := at_open h.out
  obtain ⟨w1, r1, RB, HW1, HR1, HRB, S0⟩ := lay HL (.cells #[.int .u8 0, .string ⟨#[]⟩, .int .i64 0, .int .i64 0] 97)
  rw [HRB.out] at S0
  have S1 := lie_sw S0
  have A1 : Hid (At W r (t :: l) w1 (box r1 (.cells #[.int .u8 0, .string ⟨#[]⟩, .int .i64 0, .int .i64 0] 97) :: ts)) := hide ⟨_, _, hc, HR.out, S1.out⟩
  have CF := hide (hcf w1 (by rw [HW1.out]; exact (Turn.refl _ w).alloc _))
  clear h HL HR S0 S1 hc hb
  obtain ⟨b, o, c, hc, hb, HR, HL, k0, k1, k2, k3⟩ := at_open A1.out
  obtain ⟨c0, c1, f0, f1⟩ := cell2 (HL.out.get 0 rfl)
  have hkk : (t.kind != 1) = false := by simp [hk.out]
  have hlen : (((l.length + 1 : Nat) : Int) == 0) = false := by rw [beq_eq_false_iff_ne]; omega
  go_enter Tryz.func68, Tryz.ntmps68
  go_upto_region 1 with (fail)
  rw [← HW1.out, ← HR1.out]
  go_wp2_with fail
  refine CF.out.mono ?_
  rintro e w2 ⟨rfl, T2⟩
  have S2 := hide (HL.out.stay T2)
  have A2 := hide (show At W r (t :: l) w2 _ from ⟨_, _, hc, HR.out, S2.out⟩)
  clear c0 c1 f0 f1 k0 k1 k2 k3 T2 A1 CF HL HW1 HR1 HRB S2
  go_upto_region 3 with (fail)
  obtain ⟨b, o, c, hc, hb, HR, HL, k0, k1, k2, k3⟩ := at_open A2.out
  obtain ⟨c0, c1, f0, f1⟩ := cell2 (HL.out.get 0 rfl)
  obtain ⟨y0, y1, y2, y3⟩ := cell4 (HL.out.get 1 rfl)
  have g0 := (box_cell (HL.out.get 1 rfl) 0).2
  have g1 := (box_cell (HL.out.get 1 rfl) 1).2
  have g2 := (box_cell (HL.out.get 1 rfl) 2).2
  have g3 := (box_cell (HL.out.get 1 rfl) 3).2
  have n1 : ¬ r = r1 := HL.out.apart 0 1 _ _ (by decide) rfl rfl r rfl
  have n2 : ¬ r1 = r := fun e => n1 e.symm
  have q1 : W.heap.size ≤ r := HL.out.high 0 _ rfl r rfl
  have q2 : W.heap.size ≤ r1 := HL.out.high 1 _ rfl r1 rfl
  have n3 : ¬ b = r := by omega
  have n4 : ¬ r = b := by omega
  have n5 : ¬ b = r1 := by omega
  have n6 : ¬ r1 = b := by omega
  have HR3 := tok_tail HR.out hc
  have SZ := fun v => hide (((((HL.out.setBox 1 rfl 0 (.int .u8 t.kind)).setBox 1 rfl 1 (.string t.text)).setBox 1 rfl 2 (.int .i64 t.num)).setBox 1 rfl 3 (.int .i64 t.pos)).setBox 0 rfl 0 v).drew
  clear A2 q1 q2
  by_cases h1 : c = 1
  · rw [if_pos h1] at HR3
    have HR2 := hide HR3
    clear HR3
    subst h1
    obtain rfl : l = [] := List.length_eq_zero_iff.1 (by omega)
    have S4 := SZ (.slice (some ⟨b, o, none⟩) 0 0)
    clear SZ
    go_region
    generalize (((((w2.setCell ⟨r1, 0, none⟩ (.int .u8 t.kind)).setCell ⟨r1, 1, none⟩ (.string t.text)).setCell ⟨r1, 2, none⟩ (.int .i64 t.num)).setCell ⟨r1, 3, none⟩ (.int .i64 t.pos)).setCell ⟨r, 0, none⟩ (.slice (some ⟨b, o, none⟩) 0 0)).drew = wz at *
    clear k0 k1 k2 k3 c0 c1 f0 f1 y0 y1 y2 y3 g0 g1 g2 g3 n1 n2 n3 n4 n5 n6 HL
    obtain ⟨y0, y1, y2, y3⟩ := cell4 (S4.out.get 1 rfl)
    go_wp2_with fail
    try simp only [Exit.inBlock, Exit.then]
    refine bodyPost_ret (v := tokv t) (by simp [results, Tryz.results68, go_sem, y0, y1, y2, y3]) rfl ?_
    exact ⟨rfl, hide ⟨_, _, by simp, HR2.out, S4.out.erase 1⟩⟩
  · rw [if_neg h1] at HR3
    have HR2 := hide HR3
    clear HR3
    skip
    have S4 := SZ (.slice (some ⟨b, o + 4, none⟩) l.length (c - 1))
    clear SZ
    go_region
    generalize (((((w2.setCell ⟨r1, 0, none⟩ (.int .u8 t.kind)).setCell ⟨r1, 1, none⟩ (.string t.text)).setCell ⟨r1, 2, none⟩ (.int .i64 t.num)).setCell ⟨r1, 3, none⟩ (.int .i64 t.pos)).setCell ⟨r, 0, none⟩ (.slice (some ⟨b, o + 4, none⟩) l.length (c - 1))).drew = wz at *
    clear k0 k1 k2 k3 c0 c1 f0 f1 y0 y1 y2 y3 g0 g1 g2 g3 n1 n2 n3 n4 n5 n6 HL
    obtain ⟨y0, y1, y2, y3⟩ := cell4 (S4.out.get 1 rfl)
    go_wp2_with fail
    try simp only [Exit.inBlock, Exit.then]
    refine bodyPost_ret (v := tokv t) (by simp [results, Tryz.results68, go_sem, y0, y1, y2, y3]) rfl ?_
    exact ⟨rfl, hide ⟨_, _, by omega, HR2.out, S4.out.erase 1⟩⟩
theorem fld_text (t : TokD) (w : World) : (Instr.field 97 (.agg #[.int .u8 t.kind, .string t.text, .int .i64 t.num, .int .i64 t.pos]) 1).run Tryz.prog w = .ok (.string t.text) w := by kernel_rfl
theorem fld_num (t : TokD) (w : World) : (Instr.field 97 (.agg #[.int .u8 t.kind, .string t.text, .int .i64 t.num, .int .i64 t.pos]) 2).run Tryz.prog w = .ok (.int .i64 t.num) w := by kernel_rfl
set_option maxRecDepth 100000 in
theorem pname_any (hk : Hid (t.kind = 1)) (hkw : Hid (Kw W)) (hn : nameB t.text = true) (h : Hid (At W r (t :: l) w ts)) : Calls Tryz.prog 36 #[.pointer (some ⟨r, 0, none⟩)] w (Leaves W r l ts (.string t.text)) := by
  have CO := hide (one_name hk hkw hn h)
  clear h hk hn
  have hfl := fld_text t
  go_enter Tryz.func36, Tryz.ntmps36
  go_wp2_with fail
  refine CO.out.mono ?_
  rintro e w1 ⟨rfl, S1⟩
  go_wp2_with fail
  go_ret
  exact ⟨rfl, S1⟩
set_option maxRecDepth 100000 in
theorem pwords_any (sv : Value) (xs : List ByteArray) (hx : t.text ∈ xs) (hl : xs.length ≤ 1000) (hs : Hid (Rd w 1 sv xs.length (xs.flatMap sc))) (hk : Hid (t.kind = 1)) (h : Hid (At W r (t :: l) w ts)) : Calls Tryz.prog 37 #[.pointer (some ⟨r, 0, none⟩), sv] w (Leaves W r l ts (.string t.text)) := by
  obtain ⟨As, cs, rfl⟩ := hs.out.shape
  generalize hsv : Value.slice As xs.length cs = sv at *
  have HSV := hide hsv
  clear hsv
  obtain ⟨A, c, hc, HR, HL⟩ := h.out
  obtain ⟨w1, rb, RB, HW1, HR1, HRB, S0⟩ := lay (hide HL) (.cells #[sv] 108)
  have hb0 : Hid (w1.cell? ⟨rb, 0, none⟩ = some sv) := hide (by have e := S0.out.get 0 rfl; rw [HRB.out] at e; exact (box_cell e 0).1)
  have hlt : rb < w1.heap.size := by have e := S0.out.get 0 rfl; rw [HRB.out] at e; exact box_lt e
  have hs1 : Rd w1 1 sv xs.length (xs.flatMap sc) := hs.out.turn (by rw [HW1.out]; exact (Turn.refl (fun _ => False) w).alloc _) (fun _ _ _ h => h)
  have A1 : Hid (At W r (t :: l) w1 (RB :: ts)) := hide ⟨A, c, hc, HR, S0.out.swap⟩
  have CO := hide (one_words hk rb (fun w2 T => right_words rb sv xs hx hl (hide ((T.cell (p := ⟨rb, 0, none⟩) hlt (fun h => h)).trans hb0.out)) (Nat.lt_of_lt_of_le hlt T.size) (hide (hs1.turn T (fun _ _ _ h => h)))) A1)
  clear h hk HR HL S0 A1 hc hs1 hs hb0 hlt
  rw [← HSV.out] at HW1 ⊢
  have hfl := fld_text t
  go_enter Tryz.func37, Tryz.ntmps37
  go_upto_region 1 with (fail)
  rw [← HW1.out, ← HR1.out]
  go_wp2_with fail
  refine CO.out.mono ?_
  rintro e w2 ⟨rfl, S1⟩
  go_wp2_with fail
  go_ret
  obtain ⟨A, c, hc, HR, HL⟩ := S1.out
  exact ⟨rfl, hide ⟨A, c, hc, HR, HL.erase 1⟩⟩
end
end Go.Proofs.YtnljdcghaecdaaaGreatDoor
