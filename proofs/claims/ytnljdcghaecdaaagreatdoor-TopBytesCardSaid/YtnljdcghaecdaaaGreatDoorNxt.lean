/-
  A token read. (Printed by mknext.py.)
-/
import Derived.Test.YtnljdcghaecdaaaGreatDoorLex
namespace Go.Proofs.YtnljdcghaecdaaaGreatDoor
open Go.RowKit Go.Lib Go.Maps
attribute [local go_sem] Oper.semAt_some

structure TokD where
  kind : Int
  text : ByteArray
  num : Int
  pos : Int
abbrev tokc (t : TokD) : List Value := [.int .u8 t.kind, .string t.text, .int .i64 t.num, .int .i64 t.pos]
abbrev tokv (t : TokD) : Value := .agg #[.int .u8 t.kind, .string t.text, .int .i64 t.num, .int .i64 t.pos]
def zeroT : TokD := ⟨0, ⟨#[]⟩, 0, 0⟩
def TokTo (t : TokD) (ok : Bool) (B : Nat) (w0 : World) (ts : List Thing) (e : Ending) (w' : World) : Prop := e = .returned (.tuple #[tokv t, .bool ok, .int .i64 0]) ∧ Hid (Lie B w0 w' ts)
abbrev tbx (r : Nat) (k : Int) (x : ByteArray) (n p : Int) : Thing := box r (.cells #[.int .u8 k, .string x, .int .i64 n, .int .i64 p] 97 (0, 0))
theorem lie_sw {B : Nat} {w0 w : World} {t u : Thing} {ts : List Thing} (h : Hid (Lie B w0 w (t :: u :: ts))) : Hid (Lie B w0 w (u :: t :: ts)) := hide h.out.swap
section
variable {B : Nat} {w0 w : World} {ts : List Thing} {r : Nat} {s : ByteArray} {a : Nat}
set_option maxRecDepth 100000 in
set_option maxHeartbeats 8000000 in
theorem next_end (p : Nat) (hsk : Hid (Skip s a p)) (hs : s.size ≤ 60000) (hp : Hid (p = s.size)) (h : Hid (Lie B w0 w (rbx r s a :: ts))) :
    Calls Tryz.prog 66 #[.pointer (some ⟨r, 0, none⟩)] w (TokTo zeroT false B w0 (rbx r s p :: ts)) := by
  have hps := hsk.out.le
  obtain ⟨w1, rr, RB, HW1, HR1, HRB, S1⟩ := lay h (.cells #[.int .u8 0, .string ⟨#[]⟩, .int .i64 0, .int .i64 0] 97)
  have S1 := lie_sw S1
  have C1 := hide (skip_any p hsk (by omega) S1)
  have hpe : ((p : Int) == (s.size : Int)) = true := by rw [hp.out]; simp
  go_enter Tryz.func66, Tryz.ntmps66
  go_wp2_with fail
  rw [← HW1.out, ← HR1.out]
  refine C1.out.mono ?_
  rintro e w2 ⟨rfl, S2⟩
  have S2 : Hid (Lie B w0 w2 (rbx r s p :: RB :: ts)) := S2
  rw [HRB.out] at S2
  obtain ⟨c0, c1, f0, f1⟩ := cell2 (S2.out.get 0 rfl)
  clear C1 S1
  go_wp2_with fail
  go_quiet (fail)
  have S3 := hide (S2.out.drewN nq)
  generalize w2.drewN nq = w3 at *
  clear c0 c1 f0 f1 S2
  obtain ⟨y0, y1, y2, y3⟩ := cell4 (S3.out.get 1 rfl)
  have g0 := (box_cell (S3.out.get 1 rfl) 0).2
  have g1 := (box_cell (S3.out.get 1 rfl) 1).2
  have g2 := (box_cell (S3.out.get 1 rfl) 2).2
  have g3 := (box_cell (S3.out.get 1 rfl) 3).2
  have SZ := hide ((((S3.out.setBox 1 rfl 0 (.int .u8 0)).setBox 1 rfl 1 (.string ⟨#[]⟩)).setBox 1 rfl 2 (.int .i64 0)).setBox 1 rfl 3 (.int .i64 0))
  go_wp2_with fail
  generalize (((w3.setCell ⟨rr, 0, none⟩ (.int .u8 0)).setCell ⟨rr, 1, none⟩ (.string ⟨#[]⟩)).setCell ⟨rr, 2, none⟩ (.int .i64 0)).setCell ⟨rr, 3, none⟩ (.int .i64 0) = wz at *

  clear y0 y1 y2 y3 g0 g1 g2 g3
  obtain ⟨y0, y1, y2, y3⟩ := cell4 (SZ.out.get 1 rfl)
  try simp only [Exit.inBlock, Exit.then]
  refine bodyPost_ret (v := .tuple #[.agg #[.int .u8 0, .string ⟨#[]⟩, .int .i64 0, .int .i64 0], .bool false, .int .i64 0]) (by simp [results, Tryz.results66, go_sem, y0, y1, y2, y3]) rfl ?_
  exact ⟨rfl, hide (SZ.out.erase 1)⟩
set_option maxRecDepth 100000 in
set_option maxHeartbeats 8000000 in
theorem next_word (p : Nat) (hsk : Hid (Skip s a p)) (hs : s.size ≤ 60000) (hp : p < s.size) (hl : Hid (letterB (byt s p) = true)) (h32 : (s.extract p (stop innerB s p)).size ≤ 32) (h : Hid (Lie B w0 w (rbx r s a :: ts))) :
    Calls Tryz.prog 66 #[.pointer (some ⟨r, 0, none⟩)] w (TokTo ⟨1, s.extract p (stop innerB s p), 0, p⟩ true B w0 (rbx r s (stop innerB s p) :: ts)) := by
  have hps := hsk.out.le
  obtain ⟨w1, rr, RB, HW1, HR1, HRB, S1⟩ := lay h (.cells #[.int .u8 0, .string ⟨#[]⟩, .int .i64 0, .int .i64 0] 97)
  have S1 := lie_sw S1
  have C1 := hide (skip_any p hsk (by omega) S1)
  have hpne : ((p : Int) == (s.size : Int)) = false := by rw [beq_eq_false_iff_ne]; omega
  have hby : byt s p = ((s[p]'hp).toNat : Int) := by unfold byt; rw [dif_pos hp]
  have CL := hide (fun w => letter_any (byt s p) w)
  rw [hl.out, hby] at CL
  clear hl
  go_enter Tryz.func66, Tryz.ntmps66
  go_wp2_with fail
  rw [← HW1.out, ← HR1.out]
  refine C1.out.mono ?_
  rintro e w2 ⟨rfl, S2⟩
  have S2 : Hid (Lie B w0 w2 (rbx r s p :: RB :: ts)) := S2
  rw [HRB.out] at S2
  obtain ⟨c0, c1, f0, f1⟩ := cell2 (S2.out.get 0 rfl)
  clear C1 S1
  go_wp2_with fail
  go_quiet (fail)
  have S3 := hide (S2.out.drewN nq)
  generalize w2.drewN nq = w3 at *
  clear c0 c1 f0 f1 S2
  have HBY := hide hby
  obtain ⟨c0, c1, f0, f1⟩ := cell2 (S3.out.get 0 rfl)
  obtain ⟨w4, rt, TB, HW4, HR4, HTB, S4⟩ := lay S3 (.cells #[.int .u8 0, .string ⟨#[]⟩, .int .i64 0, .int .i64 (p : Int)] 97)
  have S4 := lie_sw S4
  rw [HTB.out] at S4
  go_wp2_with fail
  rw [← HW4.out, ← HR4.out]
  clear c0 c1 f0 f1
  obtain ⟨c0, c1, f0, f1⟩ := cell2 (S4.out.get 0 rfl)
  go_quiet (fail)
  have S5 := hide (S4.out.drewN nq)
  generalize w4.drewN nq = w5 at *
  clear c0 c1 f0 f1 S4 S3
  have CR := hide (run_inner (r := r) (s := s) (a := p) hps (by omega) S5.out)
  generalize s.extract p (stop innerB s p) = x at *
  generalize stop innerB s p = q at *
  go_wp2_with fail
  refine (CL.out _).mono ?_
  rintro e wa ⟨rfl, rfl⟩
  go_wp2_with fail
  refine CR.out.mono ?_
  rintro e w6 ⟨rfl, S6⟩
  have S6 : Hid (Lie B w0 w6 (rbx r s q :: tbx rt 0 ⟨#[]⟩ 0 p :: tbx rr 0 ⟨#[]⟩ 0 0 :: ts)) := S6
  clear CR CL S5
  obtain ⟨t0, t1, t2, t3⟩ := cell4 (S6.out.get 1 rfl)
  have u0 := (box_cell (S6.out.get 1 rfl) 0).2
  have u1 := (box_cell (S6.out.get 1 rfl) 1).2
  have S7 : Hid (Lie B w0 ((w6.setCell ⟨rt, 0, none⟩ (.int .u8 1)).setCell ⟨rt, 1, none⟩ (.string x)) (rbx r s q :: tbx rt 1 x 0 p :: tbx rr 0 ⟨#[]⟩ 0 0 :: ts)) := hide ((S6.out.setBox 1 rfl 0 (.int .u8 1)).setBox 1 rfl 1 (.string x))
  go_upto_region 9 with (fail)
  generalize (w6.setCell ⟨rt, 0, none⟩ (.int .u8 1)).setCell ⟨rt, 1, none⟩ (.string x) = w7 at *
  clear t0 t1 t2 t3 u0 u1 S6
  obtain ⟨t0, t1, t2, t3⟩ := cell4 (S7.out.get 1 rfl)
  obtain ⟨y0, y1, y2, y3⟩ := cell4 (S7.out.get 2 rfl)
  have g0 := (box_cell (S7.out.get 2 rfl) 0).2
  have g1 := (box_cell (S7.out.get 2 rfl) 1).2
  have g2 := (box_cell (S7.out.get 2 rfl) 2).2
  have g3 := (box_cell (S7.out.get 2 rfl) 3).2
  have SZ := hide ((((S7.out.setBox 2 rfl 0 (.int .u8 1)).setBox 2 rfl 1 (.string x)).setBox 2 rfl 2 (.int .i64 0)).setBox 2 rfl 3 (.int .i64 (p : Int)))
  go_wp2_with fail
  generalize (((w7.setCell ⟨rr, 0, none⟩ (.int .u8 1)).setCell ⟨rr, 1, none⟩ (.string x)).setCell ⟨rr, 2, none⟩ (.int .i64 0)).setCell ⟨rr, 3, none⟩ (.int .i64 (p : Int)) = wz at *
  clear t0 t1 t2 t3
  clear y0 y1 y2 y3 g0 g1 g2 g3
  obtain ⟨y0, y1, y2, y3⟩ := cell4 (SZ.out.get 2 rfl)
  try simp only [Exit.inBlock, Exit.then]
  refine bodyPost_ret (v := .tuple #[.agg #[.int .u8 1, .string x, .int .i64 0, .int .i64 (p : Int)], .bool true, .int .i64 0]) (by simp [results, Tryz.results66, go_sem, y0, y1, y2, y3]) rfl ?_
  exact ⟨rfl, hide ((SZ.out.erase 1).erase 1)⟩
set_option maxRecDepth 100000 in
set_option maxHeartbeats 8000000 in
theorem next_sign (p : Nat) (hsk : Hid (Skip s a p)) (hs : s.size ≤ 60000) (hp : p < s.size) (hl : Hid (letterB (byt s p) = false)) (hd : Hid (digitB (byt s p) = false)) (hi : Hid (0 ≤ Lib.indexByte (⟨#[123, 125, 40, 41, 59, 58, 44, 46]⟩ : ByteArray).data.toList (byt s p).toNat.toUInt8)) (h : Hid (Lie B w0 w (rbx r s a :: ts))) :
    Calls Tryz.prog 66 #[.pointer (some ⟨r, 0, none⟩)] w (TokTo ⟨3, s.extract p (p + 1), 0, p⟩ true B w0 (rbx r s (p + 1) :: ts)) := by
  have hps := hsk.out.le
  obtain ⟨w1, rr, RB, HW1, HR1, HRB, S1⟩ := lay h (.cells #[.int .u8 0, .string ⟨#[]⟩, .int .i64 0, .int .i64 0] 97)
  have S1 := lie_sw S1
  have C1 := hide (skip_any p hsk (by omega) S1)
  have hpne : ((p : Int) == (s.size : Int)) = false := by rw [beq_eq_false_iff_ne]; omega
  have hby : byt s p = ((s[p]'hp).toNat : Int) := by unfold byt; rw [dif_pos hp]
  have CL := hide (fun w => letter_any (byt s p) w)
  rw [hl.out, hby] at CL
  have CD := hide (fun w => digit_any (byt s p) w)
  rw [hd.out, hby] at CD
  clear hl hd
  have CI := hide (fun w => Tryz.strings_IndexByte ⟨#[123, 125, 40, 41, 59, 58, 44, 46]⟩ (byt s p) w)
  have hix := hi.out
  generalize Lib.indexByte (⟨#[123, 125, 40, 41, 59, 58, 44, 46]⟩ : ByteArray).data.toList (byt s p).toNat.toUInt8 = ix at *
  rw [hby] at CI
  clear hi
  go_enter Tryz.func66, Tryz.ntmps66
  go_wp2_with fail
  rw [← HW1.out, ← HR1.out]
  refine C1.out.mono ?_
  rintro e w2 ⟨rfl, S2⟩
  have S2 : Hid (Lie B w0 w2 (rbx r s p :: RB :: ts)) := S2
  rw [HRB.out] at S2
  obtain ⟨c0, c1, f0, f1⟩ := cell2 (S2.out.get 0 rfl)
  clear C1 S1
  go_wp2_with fail
  go_quiet (fail)
  have S3 := hide (S2.out.drewN nq)
  generalize w2.drewN nq = w3 at *
  clear c0 c1 f0 f1 S2
  have HBY := hide hby
  obtain ⟨c0, c1, f0, f1⟩ := cell2 (S3.out.get 0 rfl)
  obtain ⟨w4, rt, TB, HW4, HR4, HTB, S4⟩ := lay S3 (.cells #[.int .u8 0, .string ⟨#[]⟩, .int .i64 0, .int .i64 (p : Int)] 97)
  have S4 := lie_sw S4
  rw [HTB.out] at S4
  go_wp2_with fail
  rw [← HW4.out, ← HR4.out]
  clear c0 c1 f0 f1
  obtain ⟨c0, c1, f0, f1⟩ := cell2 (S4.out.get 0 rfl)
  go_quiet (fail)
  have S5 := hide (S4.out.drewN nq)
  generalize w4.drewN nq = w5 at *
  clear c0 c1 f0 f1 S4 S3
  go_wp2_with fail
  refine (CL.out _).mono ?_
  rintro e w5 ⟨rfl, rfl⟩
  go_wp2_with fail
  refine (CD.out _).mono ?_
  rintro e w5 ⟨rfl, rfl⟩
  go_wp2_with fail
  refine (CI.out _).mono ?_
  rintro e w5 ⟨rfl, rfl⟩
  go_wp2_with fail
  clear CL CD CI
  obtain ⟨c0, c1, f0, f1⟩ := cell2 (S5.out.get 0 rfl)
  have hwr : IntKind.i64.wrap ((p : Int) + 1) = (p : Int) + 1 := IntWalk.i64_in _ (by omega)
  have hsl := fun wx => run_slice_string (P := Tryz.prog) wx 9 s .i64 .i64 (p : Int) ((p : Int) + 1) Tryz.underlying9 (by omega) (by omega) (by omega)
  obtain ⟨t0, t1, t2, t3⟩ := cell4 (S5.out.get 1 rfl)
  have u0 := (box_cell (S5.out.get 1 rfl) 0).2
  have u1 := (box_cell (S5.out.get 1 rfl) 1).2
  have hne : ¬ r = rt := S5.out.apart 0 1 _ _ (by decide) rfl rfl r rfl
  have hne2 : ¬ rt = r := fun e => hne e.symm
  have S7 : Hid (Lie B w0 ((w5.setCell ⟨rt, 0, none⟩ (.int .u8 3)).setCell ⟨rt, 1, none⟩ (.string (s.extract p (p + 1)))).drew (rbx r s p :: tbx rt 3 (s.extract p (p + 1)) 0 p :: tbx rr 0 ⟨#[]⟩ 0 0 :: ts)) := hide ((S5.out.setBox 1 rfl 0 (.int .u8 3)).setBox 1 rfl 1 (.string (s.extract p (p + 1)))).drew
  go_region
  generalize ((w5.setCell ⟨rt, 0, none⟩ (.int .u8 3)).setCell ⟨rt, 1, none⟩ (.string (s.extract p (p + 1)))).drew = w7 at *
  clear hwr hsl c0 c1 f0 f1 hne hne2 t0 t1 t2 t3 u0 u1 S5
  obtain ⟨c0, c1, f0, f1⟩ := cell2 (S7.out.get 0 rfl)
  have S8 : Hid (Lie B w0 (w7.setCell ⟨r, 1, none⟩ (.int .i64 ((p : Int) + 1))) (rbx r s (p + 1) :: tbx rt 3 (s.extract p (p + 1)) 0 p :: tbx rr 0 ⟨#[]⟩ 0 0 :: ts)) := hide (S7.out.setBox 0 rfl 1 (.int .i64 ((p : Int) + 1)))
  go_upto_region 28 with (fail)
  generalize w7.setCell ⟨r, 1, none⟩ (.int .i64 ((p : Int) + 1)) = w8 at *
  clear c0 c1 f0 f1 S7
  obtain ⟨t0, t1, t2, t3⟩ := cell4 (S8.out.get 1 rfl)
  obtain ⟨y0, y1, y2, y3⟩ := cell4 (S8.out.get 2 rfl)
  have g0 := (box_cell (S8.out.get 2 rfl) 0).2
  have g1 := (box_cell (S8.out.get 2 rfl) 1).2
  have g2 := (box_cell (S8.out.get 2 rfl) 2).2
  have g3 := (box_cell (S8.out.get 2 rfl) 3).2
  have SZ := hide ((((S8.out.setBox 2 rfl 0 (.int .u8 3)).setBox 2 rfl 1 (.string (s.extract p (p + 1)))).setBox 2 rfl 2 (.int .i64 0)).setBox 2 rfl 3 (.int .i64 (p : Int)))
  go_wp2_with fail
  generalize (((w8.setCell ⟨rr, 0, none⟩ (.int .u8 3)).setCell ⟨rr, 1, none⟩ (.string (s.extract p (p + 1)))).setCell ⟨rr, 2, none⟩ (.int .i64 0)).setCell ⟨rr, 3, none⟩ (.int .i64 (p : Int)) = wz at *
  clear t0 t1 t2 t3
  clear y0 y1 y2 y3 g0 g1 g2 g3
  obtain ⟨y0, y1, y2, y3⟩ := cell4 (SZ.out.get 2 rfl)
  try simp only [Exit.inBlock, Exit.then]
  refine bodyPost_ret (v := .tuple #[.agg #[.int .u8 3, .string (s.extract p (p + 1)), .int .i64 0, .int .i64 (p : Int)], .bool true, .int .i64 0]) (by simp [results, Tryz.results66, go_sem, y0, y1, y2, y3]) rfl ?_
  exact ⟨rfl, hide ((SZ.out.erase 1).erase 1)⟩
set_option maxRecDepth 100000 in
set_option maxHeartbeats 8000000 in
theorem next_arr (p : Nat) (hsk : Hid (Skip s a p)) (hs : s.size ≤ 60000) (hp : p < s.size) (hl : Hid (letterB (byt s p) = false)) (hd : Hid (digitB (byt s p) = false)) (hi : Hid (Lib.indexByte (⟨#[123, 125, 40, 41, 59, 58, 44, 46]⟩ : ByteArray).data.toList (byt s p).toNat.toUInt8 < 0)) (hp2 : p + 2 ≤ s.size) (ha : Hid (Lib.hasPrefix (s.extract p s.size).data.toList [45, 62] = true)) (h : Hid (Lie B w0 w (rbx r s a :: ts))) :
    Calls Tryz.prog 66 #[.pointer (some ⟨r, 0, none⟩)] w (TokTo ⟨3, ⟨#[45, 62]⟩, 0, p⟩ true B w0 (rbx r s (p + 2) :: ts)) := by
  have hps := hsk.out.le
  obtain ⟨w1, rr, RB, HW1, HR1, HRB, S1⟩ := lay h (.cells #[.int .u8 0, .string ⟨#[]⟩, .int .i64 0, .int .i64 0] 97)
  have S1 := lie_sw S1
  have C1 := hide (skip_any p hsk (by omega) S1)
  have hpne : ((p : Int) == (s.size : Int)) = false := by rw [beq_eq_false_iff_ne]; omega
  have hby : byt s p = ((s[p]'hp).toNat : Int) := by unfold byt; rw [dif_pos hp]
  have CL := hide (fun w => letter_any (byt s p) w)
  rw [hl.out, hby] at CL
  have CD := hide (fun w => digit_any (byt s p) w)
  rw [hd.out, hby] at CD
  clear hl hd
  have CI := hide (fun w => Tryz.strings_IndexByte ⟨#[123, 125, 40, 41, 59, 58, 44, 46]⟩ (byt s p) w)
  have hix := hi.out
  generalize Lib.indexByte (⟨#[123, 125, 40, 41, 59, 58, 44, 46]⟩ : ByteArray).data.toList (byt s p).toNat.toUInt8 = ix at *
  rw [hby] at CI
  clear hi
  go_enter Tryz.func66, Tryz.ntmps66
  go_wp2_with fail
  rw [← HW1.out, ← HR1.out]
  refine C1.out.mono ?_
  rintro e w2 ⟨rfl, S2⟩
  have S2 : Hid (Lie B w0 w2 (rbx r s p :: RB :: ts)) := S2
  rw [HRB.out] at S2
  obtain ⟨c0, c1, f0, f1⟩ := cell2 (S2.out.get 0 rfl)
  clear C1 S1
  go_wp2_with fail
  go_quiet (fail)
  have S3 := hide (S2.out.drewN nq)
  generalize w2.drewN nq = w3 at *
  clear c0 c1 f0 f1 S2
  have HBY := hide hby
  obtain ⟨c0, c1, f0, f1⟩ := cell2 (S3.out.get 0 rfl)
  obtain ⟨w4, rt, TB, HW4, HR4, HTB, S4⟩ := lay S3 (.cells #[.int .u8 0, .string ⟨#[]⟩, .int .i64 0, .int .i64 (p : Int)] 97)
  have S4 := lie_sw S4
  rw [HTB.out] at S4
  go_wp2_with fail
  rw [← HW4.out, ← HR4.out]
  clear c0 c1 f0 f1
  obtain ⟨c0, c1, f0, f1⟩ := cell2 (S4.out.get 0 rfl)
  go_quiet (fail)
  have S5 := hide (S4.out.drewN nq)
  generalize w4.drewN nq = w5 at *
  clear c0 c1 f0 f1 S4 S3
  go_wp2_with fail
  refine (CL.out _).mono ?_
  rintro e w5 ⟨rfl, rfl⟩
  go_wp2_with fail
  refine (CD.out _).mono ?_
  rintro e w5 ⟨rfl, rfl⟩
  go_wp2_with fail
  refine (CI.out _).mono ?_
  rintro e w5 ⟨rfl, rfl⟩
  go_wp2_with fail
  clear CL CD CI
  obtain ⟨c0, c1, f0, f1⟩ := cell2 (S5.out.get 0 rfl)
  have HCP := hide (fun m => Tryz.strings_HasPrefix (s.extract p s.size) ⟨#[45, 62]⟩ (w5.drewN m))
  rw [show (⟨#[45, 62]⟩ : ByteArray).data.toList = [45, 62] from rfl, ha.out] at HCP
  go_quiet ((go_at_call 95; with_reducible exact Calls.quiet_of_same (HCP.out _)))
  have S6 := hide (S5.out.drewN nq)
  generalize w5.drewN nq = w6 at *
  clear c0 c1 f0 f1 S5 HCP ha
  obtain ⟨c0, c1, f0, f1⟩ := cell2 (S6.out.get 0 rfl)
  obtain ⟨t0, t1, t2, t3⟩ := cell4 (S6.out.get 1 rfl)
  have u0 := (box_cell (S6.out.get 1 rfl) 0).2
  have u1 := (box_cell (S6.out.get 1 rfl) 1).2
  have S7 : Hid (Lie B w0 ((w6.setCell ⟨rt, 0, none⟩ (.int .u8 3)).setCell ⟨rt, 1, none⟩ (.string (⟨#[45, 62]⟩))) (rbx r s p :: tbx rt 3 (⟨#[45, 62]⟩) 0 p :: tbx rr 0 ⟨#[]⟩ 0 0 :: ts)) := hide ((S6.out.setBox 1 rfl 0 (.int .u8 3)).setBox 1 rfl 1 (.string (⟨#[45, 62]⟩)))
  go_upto_region 27 with (fail)
  generalize (w6.setCell ⟨rt, 0, none⟩ (.int .u8 3)).setCell ⟨rt, 1, none⟩ (.string (⟨#[45, 62]⟩)) = w7 at *
  clear t0 t1 t2 t3 u0 u1 S6
  obtain ⟨c0, c1, f0, f1⟩ := cell2 (S7.out.get 0 rfl)
  have S8 : Hid (Lie B w0 (w7.setCell ⟨r, 1, none⟩ (.int .i64 ((p : Int) + 2))) (rbx r s (p + 2) :: tbx rt 3 (⟨#[45, 62]⟩) 0 p :: tbx rr 0 ⟨#[]⟩ 0 0 :: ts)) := hide (S7.out.setBox 0 rfl 1 (.int .i64 ((p : Int) + 2)))
  go_upto_region 28 with (fail)
  generalize w7.setCell ⟨r, 1, none⟩ (.int .i64 ((p : Int) + 2)) = w8 at *
  clear c0 c1 f0 f1 S7
  obtain ⟨t0, t1, t2, t3⟩ := cell4 (S8.out.get 1 rfl)
  obtain ⟨y0, y1, y2, y3⟩ := cell4 (S8.out.get 2 rfl)
  have g0 := (box_cell (S8.out.get 2 rfl) 0).2
  have g1 := (box_cell (S8.out.get 2 rfl) 1).2
  have g2 := (box_cell (S8.out.get 2 rfl) 2).2
  have g3 := (box_cell (S8.out.get 2 rfl) 3).2
  have SZ := hide ((((S8.out.setBox 2 rfl 0 (.int .u8 3)).setBox 2 rfl 1 (.string ⟨#[45, 62]⟩)).setBox 2 rfl 2 (.int .i64 0)).setBox 2 rfl 3 (.int .i64 (p : Int)))
  go_wp2_with fail
  generalize (((w8.setCell ⟨rr, 0, none⟩ (.int .u8 3)).setCell ⟨rr, 1, none⟩ (.string ⟨#[45, 62]⟩)).setCell ⟨rr, 2, none⟩ (.int .i64 0)).setCell ⟨rr, 3, none⟩ (.int .i64 (p : Int)) = wz at *
  clear t0 t1 t2 t3
  clear y0 y1 y2 y3 g0 g1 g2 g3
  obtain ⟨y0, y1, y2, y3⟩ := cell4 (SZ.out.get 2 rfl)
  try simp only [Exit.inBlock, Exit.then]
  refine bodyPost_ret (v := .tuple #[.agg #[.int .u8 3, .string ⟨#[45, 62]⟩, .int .i64 0, .int .i64 (p : Int)], .bool true, .int .i64 0]) (by simp [results, Tryz.results66, go_sem, y0, y1, y2, y3]) rfl ?_
  exact ⟨rfl, hide ((SZ.out.erase 1).erase 1)⟩
set_option maxRecDepth 100000 in
set_option maxHeartbeats 8000000 in
theorem next_num (p : Nat) (hsk : Hid (Skip s a p)) (hs : s.size ≤ 60000) (hp : p < s.size) (hl : Hid (letterB (byt s p) = false)) (h49 : byt s p = 49) (hx : Hid (s.extract p (stop digitB s p) = ⟨#[49]⟩)) (h : Hid (Lie B w0 w (rbx r s a :: ts))) :
    Calls Tryz.prog 66 #[.pointer (some ⟨r, 0, none⟩)] w (TokTo ⟨2, ⟨#[49]⟩, 1, p⟩ true B w0 (rbx r s (stop digitB s p) :: ts)) := by
  have hps := hsk.out.le
  obtain ⟨w1, rr, RB, HW1, HR1, HRB, S1⟩ := lay h (.cells #[.int .u8 0, .string ⟨#[]⟩, .int .i64 0, .int .i64 0] 97)
  have S1 := lie_sw S1
  have C1 := hide (skip_any p hsk (by omega) S1)
  have hpne : ((p : Int) == (s.size : Int)) = false := by rw [beq_eq_false_iff_ne]; omega
  have hby : byt s p = ((s[p]'hp).toNat : Int) := by unfold byt; rw [dif_pos hp]
  have CL := hide (fun w => letter_any (byt s p) w)
  rw [hl.out, hby] at CL
  have CD := hide (fun w => digit_any 49 w)
  rw [show digitB 49 = true from rfl] at CD
  rw [hby] at h49
  rw [h49] at hby CL
  clear hl
  go_enter Tryz.func66, Tryz.ntmps66
  go_wp2_with fail
  rw [← HW1.out, ← HR1.out]
  refine C1.out.mono ?_
  rintro e w2 ⟨rfl, S2⟩
  have S2 : Hid (Lie B w0 w2 (rbx r s p :: RB :: ts)) := S2
  rw [HRB.out] at S2
  obtain ⟨c0, c1, f0, f1⟩ := cell2 (S2.out.get 0 rfl)
  clear C1 S1
  go_wp2_with fail
  go_quiet (fail)
  have S3 := hide (S2.out.drewN nq)
  generalize w2.drewN nq = w3 at *
  clear c0 c1 f0 f1 S2
  have HBY := hide hby
  obtain ⟨c0, c1, f0, f1⟩ := cell2 (S3.out.get 0 rfl)
  obtain ⟨w4, rt, TB, HW4, HR4, HTB, S4⟩ := lay S3 (.cells #[.int .u8 0, .string ⟨#[]⟩, .int .i64 0, .int .i64 (p : Int)] 97)
  have S4 := lie_sw S4
  rw [HTB.out] at S4
  go_wp2_with fail
  rw [← HW4.out, ← HR4.out]
  clear c0 c1 f0 f1
  obtain ⟨c0, c1, f0, f1⟩ := cell2 (S4.out.get 0 rfl)
  go_quiet (fail)
  have S5 := hide (S4.out.drewN nq)
  generalize w4.drewN nq = w5 at *
  clear c0 c1 f0 f1 S4 S3
  have CR := hide (run_digit (r := r) (s := s) (a := p) hps (by omega) S5.out)
  rw [hx.out] at CR
  generalize stop digitB s p = q at *
  go_wp2_with fail
  refine (CL.out _).mono ?_
  rintro e w5 ⟨rfl, rfl⟩
  go_wp2_with fail
  refine (CD.out _).mono ?_
  rintro e w5 ⟨rfl, rfl⟩
  go_wp2_with fail
  refine CR.out.mono ?_
  rintro e w6 ⟨rfl, S6⟩
  have S6 : Hid (Lie B w0 w6 (rbx r s q :: tbx rt 0 ⟨#[]⟩ 0 p :: tbx rr 0 ⟨#[]⟩ 0 0 :: ts)) := S6
  clear CR CL S5
  obtain ⟨t0, t1, t2, t3⟩ := cell4 (S6.out.get 1 rfl)
  have u0 := (box_cell (S6.out.get 1 rfl) 0).2
  have u1 := (box_cell (S6.out.get 1 rfl) 1).2
  have S7 : Hid (Lie B w0 ((w6.setCell ⟨rt, 0, none⟩ (.int .u8 2)).setCell ⟨rt, 1, none⟩ (.string ⟨#[49]⟩)) (rbx r s q :: tbx rt 2 ⟨#[49]⟩ 0 p :: tbx rr 0 ⟨#[]⟩ 0 0 :: ts)) := hide ((S6.out.setBox 1 rfl 0 (.int .u8 2)).setBox 1 rfl 1 (.string ⟨#[49]⟩))
  go_upto_region 13 with (fail)
  generalize (w6.setCell ⟨rt, 0, none⟩ (.int .u8 2)).setCell ⟨rt, 1, none⟩ (.string ⟨#[49]⟩) = w7 at *
  clear t0 t1 t2 t3 u0 u1 S6
  obtain ⟨t0, t1, t2, t3⟩ := cell4 (S7.out.get 1 rfl)
  go_wp2_with fail
  rw [run_bytes_of_string w7 9 52 5 ⟨#[49]⟩ Tryz.underlying9 Tryz.underlying52 Tryz.underlying5]
  have hat := bytesRow_at ⟨#[49]⟩ (grownCap w7 (⟨#[49]⟩ : ByteArray).size 0 5) 0 (by decide)
  generalize grownCap w7 (⟨#[49]⟩ : ByteArray).size 0 5 = cp at *
  generalize bytesRow ⟨#[49]⟩ cp = row at *
  obtain ⟨w8, rb, BB, HW8, HR8, HBB, S8⟩ := lay (hide S7.out.drew) (.cells row 5 (row.size, row.size + 1))
  rw [show w7.heap.size = w7.drew.heap.size from rfl, ← HW8.out, ← HR8.out]
  have hb0 : w8.cell? ⟨rb, 0, none⟩ = some (.int .u8 49) := by
    rw [HW8.out, HR8.out, World.cell?_alloc_mark]
    exact hat
  clear hat t0 t1 t2 t3 S7
  obtain ⟨t0, t1, t2, t3⟩ := cell4 (S8.out.get 2 rfl)
  go_wp2_with fail
  go_loopg [8, 76] 1 (fun g _ v wr => ∃ i : Nat, i ≤ 1 ∧ 1 - i ≤ g ∧ v = .int .i64 (i : Int) ∧ Hid (Lie B w0 wr (BB :: rbx r s q :: tbx rt 2 ⟨#[49]⟩ i p :: tbx rr 0 ⟨#[]⟩ 0 0 :: ts)))
  case atStart => exact ⟨0, by omega, by omega, rfl, S8⟩
  case round =>
    obtain ⟨i, hi1, hg, rfl, HL⟩ := hrel
    rcases Nat.lt_or_ge i 1 with hlt | hge
    · obtain rfl : i = 0 := by omega
      have hb1 : wr.cell? ⟨rb, 0, none⟩ = some (.int .u8 49) := by
        have e := HL.out.get 0 rfl
        have e2 := S8.out.get 0 rfl
        rw [HBB.out] at e e2
        have e3 := hb0
        unfold World.cell? at e3 ⊢
        simpa [show wr.heap[rb]? = _ from e, show w8.heap[rb]? = _ from e2] using e3
      clear hb0 t0 t1 t2 t3
      obtain ⟨t0, t1, t2, t3⟩ := cell4 (HL.out.get 2 rfl)
      have u2 := (box_cell (HL.out.get 2 rfl) 2).2
      have S9 : Hid (Lie B w0 (wr.setCell ⟨rt, 2, none⟩ (.int .i64 1)) (BB :: rbx r s q :: tbx rt 2 ⟨#[49]⟩ ((1 : Nat) : Int) p :: tbx rr 0 ⟨#[]⟩ 0 0 :: ts)) := hide (HL.out.setBox 2 rfl 2 (.int .i64 1))
      go_wp2_with fail
      go_roundg 0
      case measure => omega
      case rel => exact ⟨1, by omega, by omega, by go_num, S9⟩
    · obtain rfl : i = 1 := by omega
      clear hb0 t0 t1 t2 t3
      obtain ⟨t0, t1, t2, t3⟩ := cell4 (HL.out.get 2 rfl)
      obtain ⟨y0, y1, y2, y3⟩ := cell4 (HL.out.get 3 rfl)
      have g0 := (box_cell (HL.out.get 3 rfl) 0).2
      have g1 := (box_cell (HL.out.get 3 rfl) 1).2
      have g2 := (box_cell (HL.out.get 3 rfl) 2).2
      have g3 := (box_cell (HL.out.get 3 rfl) 3).2
      have SZ := hide ((((HL.out.setBox 3 rfl 0 (.int .u8 2)).setBox 3 rfl 1 (.string ⟨#[49]⟩)).setBox 3 rfl 2 (.int .i64 1)).setBox 3 rfl 3 (.int .i64 (p : Int)))
      go_wp2_with fail
      generalize (((wr.setCell ⟨rr, 0, none⟩ (.int .u8 2)).setCell ⟨rr, 1, none⟩ (.string ⟨#[49]⟩)).setCell ⟨rr, 2, none⟩ (.int .i64 1)).setCell ⟨rr, 3, none⟩ (.int .i64 (p : Int)) = wz at *
      clear t0 t1 t2 t3
      clear y0 y1 y2 y3 g0 g1 g2 g3
      obtain ⟨y0, y1, y2, y3⟩ := cell4 (SZ.out.get 3 rfl)
      try simp only [Exit.inBlock, Exit.then]
      refine bodyPost_ret (v := .tuple #[.agg #[.int .u8 2, .string ⟨#[49]⟩, .int .i64 1, .int .i64 (p : Int)], .bool true, .int .i64 0]) (by simp [results, Tryz.results66, go_sem, y0, y1, y2, y3]) rfl ?_
      exact ⟨rfl, hide (((SZ.out.erase 2).erase 2).erase 0)⟩

end
end Go.Proofs.YtnljdcghaecdaaaGreatDoor
