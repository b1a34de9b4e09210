/-
  Things turned about; one record appended inside a region.
-/
import Derived.Test.YtnljdcghaecdaaaGreatDoorPty
import Derived.Test.YtnljdcghaecdaaaGreatDoorWri
import Derived.Defers
import Derived.Deep.RegionHeld3
/-
  A field, a method, a step read. (Printed by mkpsf.py.)
-/
namespace Go.Proofs.YtnljdcghaecdaaaGreatDoor
open Go.RowKit Go.Lib Go.Maps
attribute [local go_sem] Oper.semAt_some

section
variable {W w : World} {r : Nat} {t : TokD} {l : List TokD} {ts : List Thing}
theorem at_lay (h : Hid (At W r l w ts)) (o : Obj) : ∃ (w2 : World) (k : Nat), Hid (w2 = w.alloc o) ∧ Hid (k = w.heap.size) ∧ Hid (At W r l w2 (box k o :: ts)) := by
  obtain ⟨A, c, hc, hr, hL⟩ := h.out
  exact ⟨_, _, hide rfl, hide rfl, hide ⟨A, c, hc, hr, (hL.alloc o).swap⟩⟩
theorem at_set (h : Hid (At W r l w ts)) (n : Nat) {b : Nat} {cs : Array Value} {ty : TypeId} {fz : Nat × Nat} (hn : ts[n]? = some (box b (.cells cs ty fz))) (i : Nat) (v : Value) :
    Hid (At W r l (w.setCell ⟨b, i, none⟩ v) (ts.set n (box b (.cells (cs.setIfInBounds i v) ty fz)))) := by
  obtain ⟨A, c, hc, hr, hL⟩ := h.out
  exact hide ⟨A, c, hc, hr, hL.setBox (n + 1) hn i v⟩
theorem at_erase (h : Hid (At W r l w ts)) (n : Nat) : Hid (At W r l w (ts.eraseIdx n)) := by
  obtain ⟨A, c, hc, hr, hL⟩ := h.out
  exact hide ⟨A, c, hc, hr, hL.erase (n + 1)⟩
theorem at_get (h : Hid (At W r l w ts)) (n : Nat) {T : Thing} (hn : ts[n]? = some T) : T.is w := by
  obtain ⟨A, c, hc, hr, hL⟩ := h.out
  exact hL.get (n + 1) hn
theorem at_swap {T U : Thing} (h : Hid (At W r l w (T :: U :: ts))) : Hid (At W r l w (U :: T :: ts)) := by
  obtain ⟨A, c, hc, hr, hL⟩ := h.out
  refine hide ⟨A, c, hc, hr, hL.pick (fun i => if i = 1 then 2 else if i = 2 then 1 else i) (fun i j _ _ h => ?_) (fun i u h => ?_)⟩
  · have h : (if i = 1 then 2 else if i = 2 then 1 else i) = (if j = 1 then 2 else if j = 2 then 1 else j) := h
    split at h <;> split at h <;> (try split at h) <;> (try split at h) <;> omega
  · match i with
    | 0 => exact h
    | 1 => exact h
    | 2 => exact h
    | k + 3 => simpa using h
theorem want_to (x : ByteArray) (hx : Hid (t.text = x)) (hk : Hid (t.kind ≠ 2)) (h : Hid (At W r (t :: l) w ts)) : Calls Tryz.prog 35 #[.pointer (some ⟨r, 0, none⟩), .string x] w fun e w' => e = vd ∧ Hid (At W r l w' ts) := hx.out ▸ want_any hk.out h
/-- A name, a word or sign, a number. -/
def NameK (t : TokD) : Prop := t.kind = 1 ∧ nameB t.text = true
def SignK (x : ByteArray) (t : TokD) : Prop := t.kind ≠ 2 ∧ t.text = x

set_option maxRecDepth 100000 in
set_option maxHeartbeats 8000000 in
theorem pfield_any {tn tc tt te : TokD} (hkw : Hid (Kw W)) (n : Int) (hn0 : n ≠ 0) (hend : Hid (∀ w, Calls Tryz.prog 72 #[.string tt.text] w fun e w' => e = .returned (.int .u8 n) ∧ w' = w)) (hl : Hid (tt.text ≠ ⟨#[108, 105, 115, 116]⟩)) (ho : Hid (tt.text ≠ ⟨#[111, 112, 116]⟩)) (hk : Hid (tt.kind = 1))
    (h1 : Hid (NameK tn)) (h2 : Hid (SignK ⟨#[58]⟩ tc)) (h3 : Hid (SignK ⟨#[59]⟩ te)) (h : Hid (At W r (tn :: tc :: tt :: te :: l) w ts)) :
    Calls Tryz.prog 39 #[.pointer (some ⟨r, 0, none⟩)] w fun e w' => ∃ v, e = .returned (.agg #[.string tn.text, v]) ∧ Hid (At W r l w' (trow W.heap.size v n :: ts)) := by
  obtain ⟨w1, r2, HW1, HR2, A1⟩ := at_lay h (.cells #[.string ⟨#[]⟩, .slice none 0 0] 63)
  have C1 := hide (pname_any (hide h1.out.1) hkw h1.out.2 A1)
  clear h
  go_enter Tryz.func39, Tryz.ntmps39
  go_upto_region 1 with (fail)
  rw [← HW1.out, ← HR2.out]
  go_wp2_with fail
  refine C1.out.mono ?_
  rintro e w2 ⟨rfl, A2⟩
  clear C1 A1 HW1 HR2
  obtain ⟨w3, r3, HW3, HR3, A3⟩ := at_lay A2 (.cells #[.string tn.text, .slice none 0 0] 63)
  have C3 := hide (want_to ⟨#[58]⟩ (hide h2.out.2) (hide h2.out.1) A3)
  go_upto_region 2 with (fail)
  rw [← HW3.out, ← HR3.out]
  go_wp2_with fail
  refine C3.out.mono ?_
  rintro e w4 ⟨rfl, A4⟩
  clear C3 A3 A2 HW3 HR3
  have C4 := hide (psorts_any n hn0 hend hl ho hk A4)
  go_wp2_with fail
  refine C4.out.mono ?_
  rintro e w5 ⟨v, rfl, A5⟩
  clear C4 A4
  obtain ⟨Av, cv, rfl⟩ := (Rd.of_own (at_get A5 0 rfl)).shape
  obtain ⟨y0, y1, _, y3⟩ := cell2 (at_get A5 1 rfl)
  have A6 : Hid (At W r (te :: l) (w5.setCell ⟨r3, 1, none⟩ (.slice Av 1 cv)) (trow W.heap.size (.slice Av 1 cv) n :: box r3 (.cells #[.string tn.text, .slice Av 1 cv] 63 (0, 0)) :: box r2 (.cells #[.string ⟨#[]⟩, .slice none 0 0] 63 (0, 0)) :: ts)) := at_set A5 1 rfl 1 (.slice Av 1 cv)
  have C6 := hide (want_to ⟨#[59]⟩ (hide h3.out.2) (hide h3.out.1) A6)
  go_upto_region 4 with (fail)
  generalize w5.setCell ⟨r3, 1, none⟩ (.slice Av 1 cv) = w6 at *
  clear y0 y1 y3
  go_wp2_with fail
  refine C6.out.mono ?_
  rintro e w7 ⟨rfl, A7⟩
  clear C6 A6 A5
  obtain ⟨y0, y1, _, _⟩ := cell2 (at_get A7 1 rfl)
  obtain ⟨z0, z1, z2, z3⟩ := cell2 (at_get A7 2 rfl)
  have A8 : Hid (At W r l ((w7.setCell ⟨r2, 0, none⟩ (.string tn.text)).setCell ⟨r2, 1, none⟩ (.slice Av 1 cv)) (trow W.heap.size (.slice Av 1 cv) n :: box r3 (.cells #[.string tn.text, .slice Av 1 cv] 63 (0, 0)) :: box r2 (.cells #[.string tn.text, .slice Av 1 cv] 63 (0, 0)) :: ts)) := at_set (at_set A7 2 rfl 0 (.string tn.text)) 2 rfl 1 (.slice Av 1 cv)
  obtain ⟨x0, x1, _, _⟩ := cell2 (at_get A8 2 rfl)
  go_wp2_with fail
  try simp only [Exit.inBlock, Exit.then]
  refine bodyPost_ret (v := .agg #[.string tn.text, .slice Av 1 cv]) (by simp [results, Tryz.results39, go_sem, x0, x1]) rfl ?_
  exact ⟨_, rfl, at_erase (at_erase A8 1) 1⟩
end
end Go.Proofs.YtnljdcghaecdaaaGreatDoor
/-
  A name in brackets, a step, a method read. (Printed by mkpst.py.)
-/
namespace Go.Proofs.YtnljdcghaecdaaaGreatDoor
open Go.RowKit Go.Lib Go.Maps
attribute [local go_sem] Oper.semAt_some

section
variable {W w : World} {r : Nat} {t : TokD} {l : List TokD} {ts : List Thing}

set_option maxRecDepth 100000 in
set_option maxHeartbeats 8000000 in
theorem want_d {u : FrameMode} (x : ByteArray) (h1 : Hid (SignK x t)) (h : Hid (At W r (t :: l) w ts)) : CallsD Tryz.prog 35 #[.pointer (some ⟨r, 0, none⟩), .string x] u w fun e u' w' => u' = u ∧ (e = vd ∧ Hid (At W r l w' ts)) := by
  have CT := hide (take_yes h1.out.1 h)
  rw [h1.out.2] at CT
  clear h h1
  go_enter_d Tryz.func35, Tryz.ntmps35
  go_wp2_with fail
  refine CT.out.mono ?_
  rintro e w1 ⟨rfl, S1⟩
  go_wp2_with fail
  first | refine bodyPost_ret (results_none rfl _ _ _) rfl ?_ | go_end0
  exact ⟨rfl, S1⟩
set_option maxRecDepth 100000 in
set_option maxHeartbeats 8000000 in
theorem parg_any {ta tn tb : TokD} (hkw : Hid (Kw W)) (h1 : Hid (SignK ⟨#[40]⟩ ta)) (h2 : Hid (NameK tn)) (h3 : Hid (SignK ⟨#[41]⟩ tb)) (h : Hid (At W r (ta :: tn :: tb :: l) w ts)) :
    Calls Tryz.prog 42 #[.pointer (some ⟨r, 0, none⟩)] w fun e w' => e = .returned (.string tn.text) ∧ Hid (At W r l w' ts) := by
  have C1 := hide (want_to ⟨#[40]⟩ (hide h1.out.2) (hide h1.out.1) h)
  clear h
  go_enter_defers Tryz.func42, Tryz.ntmps42
  go_wp2_with fail
  refine C1.out.mono ?_
  rintro e w1 ⟨rfl, A1⟩
  have C2 := hide (pname_any (hide h2.out.1) hkw h2.out.2 A1)
  go_wp2_with fail
  refine C2.out.mono ?_
  rintro e w2 ⟨rfl, A2⟩
  go_wp2_with fail
  refine leaves_cons (f := 35) (args := #[.pointer (some ⟨r, 0, none⟩), .string ⟨#[41]⟩]) (by simp) (by simp [go_sem]) ?_
  refine (want_d ⟨#[41]⟩ h3 A2).mono ?_
  rintro e u' w3 ⟨rfl, rfl, A3⟩
  exact ⟨_, results_tmp rfl _ _ _, rfl, A3⟩
set_option maxRecDepth 100000 in
set_option maxHeartbeats 8000000 in
theorem pstep_any {t0 t1 t2 t3 t4 t5 t6 : TokD} (hkw : Hid (Kw W)) (h0 : Hid (SignK ⟨#[100, 111]⟩ t0)) (h1 : Hid (NameK t1)) (h2 : Hid (SignK ⟨#[46]⟩ t2)) (h3 : Hid (NameK t3)) (h4 : Hid (SignK ⟨#[97, 116]⟩ t4)) (h5 : Hid (t5.kind = 2)) (h6 : Hid (SignK ⟨#[59]⟩ t6)) (h : Hid (At W r (t0 :: t1 :: t2 :: t3 :: t4 :: t5 :: t6 :: l) w ts)) :
    Calls Tryz.prog 44 #[.pointer (some ⟨r, 0, none⟩)] w fun e w' => e = .returned (.agg #[.string t1.text, .string t3.text, .int .i64 t5.num]) ∧ Hid (At W r l w' ts) := by
  obtain ⟨w1, r2, HW1, HR2, A1⟩ := at_lay h (.cells #[.string ⟨#[]⟩, .string ⟨#[]⟩, .int .i64 0] 90)
  have C1 := hide (want_to ⟨#[100, 111]⟩ (hide h0.out.2) (hide h0.out.1) A1)
  clear h
  have hfl := fld_num t5
  go_enter Tryz.func44, Tryz.ntmps44
  go_upto_region 1 with (fail)
  rw [← HW1.out, ← HR2.out]
  go_wp2_with fail
  refine C1.out.mono ?_
  rintro e w2 ⟨rfl, A2⟩
  clear C1 A1 HW1 HR2
  have C2 := hide (pname_any (hide h1.out.1) hkw h1.out.2 A2)
  go_wp2_with fail
  refine C2.out.mono ?_
  rintro e w3 ⟨rfl, A3⟩
  clear C2 A2
  obtain ⟨w4, r3, HW4, HR4, A4⟩ := at_lay A3 (.cells #[.string t1.text, .string ⟨#[]⟩, .int .i64 0] 90)
  have C4 := hide (want_to ⟨#[46]⟩ (hide h2.out.2) (hide h2.out.1) A4)
  go_upto_region 3 with (fail)
  rw [← HW4.out, ← HR4.out]
  go_wp2_with fail
  refine C4.out.mono ?_
  rintro e w5 ⟨rfl, A5⟩
  clear C4 A4 A3 HW4 HR4
  have C5 := hide (pname_any (hide h3.out.1) hkw h3.out.2 A5)
  go_wp2_with fail
  refine C5.out.mono ?_
  rintro e w6 ⟨rfl, A6⟩
  clear C5 A5
  obtain ⟨c0, c1, c2⟩ := cell3 (at_get A6 0 rfl)
  have f1 := (box_cell (at_get A6 0 rfl) 1).2
  have A7 : Hid (At W r (t4 :: t5 :: t6 :: l) (w6.setCell ⟨r3, 1, none⟩ (.string t3.text)) (box r3 (.cells #[.string t1.text, .string t3.text, .int .i64 0] 90 (0, 0)) :: box r2 (.cells #[.string ⟨#[]⟩, .string ⟨#[]⟩, .int .i64 0] 90 (0, 0)) :: ts)) := at_set A6 0 rfl 1 (.string t3.text)
  go_upto_region 5 with (fail)
  generalize w6.setCell ⟨r3, 1, none⟩ (.string t3.text) = w7 at *
  clear c0 c1 c2 f1 A6
  have C7 := hide (want_to ⟨#[97, 116]⟩ (hide h4.out.2) (hide h4.out.1) A7)
  go_wp2_with fail
  refine C7.out.mono ?_
  rintro e w8 ⟨rfl, A8⟩
  clear C7 A7
  have C8 := hide (one_num h5 A8)
  go_wp2_with fail
  refine C8.out.mono ?_
  rintro e w9 ⟨rfl, A9⟩
  clear C8 A8
  obtain ⟨c0, c1, c2⟩ := cell3 (at_get A9 0 rfl)
  have f2 := (box_cell (at_get A9 0 rfl) 2).2
  have A10 : Hid (At W r (t6 :: l) (w9.setCell ⟨r3, 2, none⟩ (.int .i64 t5.num)) (box r3 (.cells #[.string t1.text, .string t3.text, .int .i64 t5.num] 90 (0, 0)) :: box r2 (.cells #[.string ⟨#[]⟩, .string ⟨#[]⟩, .int .i64 0] 90 (0, 0)) :: ts)) := at_set A9 0 rfl 2 (.int .i64 t5.num)
  go_upto_region 7 with (fail)
  generalize w9.setCell ⟨r3, 2, none⟩ (.int .i64 t5.num) = w10 at *
  clear c0 c1 c2 f2 A9
  have C10 := hide (want_to ⟨#[59]⟩ (hide h6.out.2) (hide h6.out.1) A10)
  go_wp2_with fail
  refine C10.out.mono ?_
  rintro e w11 ⟨rfl, A11⟩
  clear C10 A10
  obtain ⟨c0, c1, c2⟩ := cell3 (at_get A11 0 rfl)
  obtain ⟨d0, d1, d2⟩ := cell3 (at_get A11 1 rfl)
  have f0 := (box_cell (at_get A11 1 rfl) 0).2
  have f1 := (box_cell (at_get A11 1 rfl) 1).2
  have f2 := (box_cell (at_get A11 1 rfl) 2).2
  have A12 := at_set (at_set (at_set A11 1 rfl 0 (.string t1.text)) 1 rfl 1 (.string t3.text)) 1 rfl 2 (.int .i64 t5.num)
  obtain ⟨x0, x1, x2⟩ := cell3 (at_get A12 1 rfl)
  go_wp2_with fail
  try simp only [Exit.inBlock, Exit.then]
  refine bodyPost_ret (v := .agg #[.string t1.text, .string t3.text, .int .i64 t5.num]) (by simp [results, Tryz.results44, go_sem, x0, x1, x2]) rfl ?_
  exact ⟨rfl, at_erase (at_erase A12 0) 0⟩
theorem cell5m {w : World} {b : Nat} {v0 v1 v2 v3 v4 : Value} {t : TypeId} (h : w.heap[b]? = some (.cells #[v0, v1, v2, v3, v4] t (0, 0))) : w.cell? ⟨b, 0, none⟩ = some v0 ∧ w.cell? ⟨b, 1, none⟩ = some v1 ∧ w.cell? ⟨b, 2, none⟩ = some v2 ∧ w.cell? ⟨b, 3, none⟩ = some v3 ∧ w.cell? ⟨b, 4, none⟩ = some v4 := by
  simp [World.cell?, h]
set_option maxRecDepth 100000 in
set_option maxHeartbeats 8000000 in
theorem pmethu_any {t0 t1 t2 t3 t4 t5 t6 t7 t8 t9 : TokD} (hkw : Hid (Kw W)) (n : Int) (hend : Hid (∀ w, Calls Tryz.prog 72 #[.string t6.text] w fun e w' => e = .returned (.int .u8 n) ∧ w' = w)) (h0 : Hid (t0.kind = 1 ∧ t0.text ∈ [⟨#[103, 105, 118, 101]⟩, ⟨#[116, 97, 107, 101]⟩, ⟨#[110, 111, 116, 101]⟩])) (h1 : Hid (NameK t1)) (h2 : Hid (SignK ⟨#[40]⟩ t2)) (h3 : Hid (NameK t3)) (h4 : Hid (SignK ⟨#[41]⟩ t4)) (h5 : Hid (SignK ⟨#[45, 62]⟩ t5)) (h6 : Hid (t6.kind = 1 ∧ t6.text ∈ [⟨#[105, 110, 116]⟩, ⟨#[110, 111, 110, 101]⟩])) (h7 : Hid (SignK ⟨#[117, 110, 100, 111]⟩ t7)) (h8 : Hid (NameK t8)) (h9 : Hid (SignK ⟨#[59]⟩ t9)) (h : Hid (At W r (t0 :: t1 :: t2 :: t3 :: t4 :: t5 :: t6 :: t7 :: t8 :: t9 :: l) w ts)) :
    Calls Tryz.prog 41 #[.pointer (some ⟨r, 0, none⟩)] w fun e w' => e = .returned (.agg #[.string t1.text, .string t3.text, .int .u8 n, .string t0.text, .string t8.text]) ∧ Hid (At W r l w' ts) := by
  obtain ⟨w1, r2, HW1, HR2, A1⟩ := at_lay h (.cells #[.string ⟨#[]⟩, .string ⟨#[]⟩, .int .u8 0, .string ⟨#[]⟩, .string ⟨#[]⟩] 85)
  obtain ⟨w2, r4, HW2, HR4, A2⟩ := at_lay A1 (.cells #[.string ⟨#[103, 105, 118, 101]⟩, .string ⟨#[116, 97, 107, 101]⟩, .string ⟨#[110, 111, 116, 101]⟩] 9)
  have R2 : Hid (Rd w2 1 (.slice (some ⟨r4, 0, none⟩) 3 3) 3 ([⟨#[103, 105, 118, 101]⟩, ⟨#[116, 97, 107, 101]⟩, ⟨#[110, 111, 116, 101]⟩].flatMap sc)) := hide (by rw [HW2.out, HR4.out]; exact rd_new w1 9 _ [⟨#[103, 105, 118, 101]⟩, ⟨#[116, 97, 107, 101]⟩, ⟨#[110, 111, 116, 101]⟩] rfl)
  have C2 := hide (pwords_any (.slice (some ⟨r4, 0, none⟩) 3 3) [⟨#[103, 105, 118, 101]⟩, ⟨#[116, 97, 107, 101]⟩, ⟨#[110, 111, 116, 101]⟩] h0.out.2 (by decide) R2 (hide h0.out.1) A2)
  clear h
  go_enter Tryz.func41, Tryz.ntmps41
  go_upto_region 1 with (fail)
  rw [← HW1.out, ← HR2.out]
  go_wp2_with (rw [← HW2.out, ← HR4.out])
  refine C2.out.mono ?_
  rintro e w3 ⟨rfl, A3⟩
  clear C2 A2 A1 HW1 HR2 HW2 HR4 R2
  have A3 := at_erase A3 0
  have C3 := hide (pname_any (hide h1.out.1) hkw h1.out.2 A3)
  go_wp2_with fail
  refine C3.out.mono ?_
  rintro e w4 ⟨rfl, A4⟩
  clear C3 A3
  have C4 := hide (parg_any hkw h2 h3 h4 A4)
  go_wp2_with fail
  refine C4.out.mono ?_
  rintro e w5 ⟨rfl, A5⟩
  clear C4 A4
  obtain ⟨w6, r3, HW6, HR6, A6⟩ := at_lay A5 (.cells #[.string t1.text, .string t3.text, .int .u8 0, .string t0.text, .string ⟨#[]⟩] 85)
  have C6 := hide (want_to ⟨#[45, 62]⟩ (hide h5.out.2) (hide h5.out.1) A6)
  go_upto_region 2 with (fail)
  rw [← HW6.out, ← HR6.out]
  go_wp2_with fail
  refine C6.out.mono ?_
  rintro e w7 ⟨rfl, A7⟩
  clear C6 A6 A5 HW6 HR6
  obtain ⟨w8, r5, HW8, HR8, A8⟩ := at_lay A7 (.cells #[.string ⟨#[105, 110, 116]⟩, .string ⟨#[110, 111, 110, 101]⟩] 9)
  have R8 : Hid (Rd w8 1 (.slice (some ⟨r5, 0, none⟩) 2 2) 2 ([⟨#[105, 110, 116]⟩, ⟨#[110, 111, 110, 101]⟩].flatMap sc)) := hide (by rw [HW8.out, HR8.out]; exact rd_new w7 9 _ [⟨#[105, 110, 116]⟩, ⟨#[110, 111, 110, 101]⟩] rfl)
  have C8 := hide (pwords_any (.slice (some ⟨r5, 0, none⟩) 2 2) [⟨#[105, 110, 116]⟩, ⟨#[110, 111, 110, 101]⟩] h6.out.2 (by decide) R8 (hide h6.out.1) A8)
  go_wp2_with (rw [← HW8.out, ← HR8.out])
  refine C8.out.mono ?_
  rintro e w9 ⟨rfl, A9⟩
  clear C8 A8 A7 HW8 HR8 R8
  have A9 := at_erase A9 0
  go_wp2_with fail
  refine (hend.out _).mono ?_
  rintro e wa ⟨rfl, rfl⟩
  obtain ⟨c0, c1, c2, c3, c4⟩ := cell5m (at_get A9 0 rfl)
  have f2 := (box_cell (at_get A9 0 rfl) 2).2
  have A10 : Hid (At W r (t7 :: t8 :: t9 :: l) (wa.setCell ⟨r3, 2, none⟩ (.int .u8 n)) (box r3 (.cells #[.string t1.text, .string t3.text, .int .u8 n, .string t0.text, .string ⟨#[]⟩] 85 (0, 0)) :: box r2 (.cells #[.string ⟨#[]⟩, .string ⟨#[]⟩, .int .u8 0, .string ⟨#[]⟩, .string ⟨#[]⟩] 85 (0, 0)) :: ts)) := at_set A9 0 rfl 2 (.int .u8 n)
  go_upto_region 4 with (fail)
  generalize wa.setCell ⟨r3, 2, none⟩ (.int .u8 n) = wb at *
  clear c0 c1 c2 c3 c4 f2 A9
  have CB := hide (take_yes (hide h7.out.1).out A10)
  rw [h7.out.2] at CB
  go_wp2_with fail
  refine CB.out.mono ?_
  rintro e wc ⟨rfl, AC⟩
  clear CB A10
  have CC := hide (pname_any (hide h8.out.1) hkw h8.out.2 AC)
  go_wp2_with fail
  refine CC.out.mono ?_
  rintro e wd ⟨rfl, AD⟩
  clear CC AC
  obtain ⟨c0, c1, c2, c3, c4⟩ := cell5m (at_get AD 0 rfl)
  have f4 := (box_cell (at_get AD 0 rfl) 4).2
  have AE : Hid (At W r (t9 :: l) (wd.setCell ⟨r3, 4, none⟩ (.string t8.text)) (box r3 (.cells #[.string t1.text, .string t3.text, .int .u8 n, .string t0.text, .string t8.text] 85 (0, 0)) :: box r2 (.cells #[.string ⟨#[]⟩, .string ⟨#[]⟩, .int .u8 0, .string ⟨#[]⟩, .string ⟨#[]⟩] 85 (0, 0)) :: ts)) := at_set AD 0 rfl 4 (.string t8.text)
  have CE := hide (want_to ⟨#[59]⟩ (hide h9.out.2) (hide h9.out.1) AE)
  go_upto_region 6 with (fail)
  generalize wd.setCell ⟨r3, 4, none⟩ (.string t8.text) = we at *
  clear c0 c1 c2 c3 c4 f4 AD
  go_wp2_with fail
  refine CE.out.mono ?_
  rintro e wf ⟨rfl, AF⟩
  clear CE AE
  obtain ⟨c0, c1, c2, c3, c4⟩ := cell5m (at_get AF 0 rfl)
  obtain ⟨d0, d1, d2, d3, d4⟩ := cell5m (at_get AF 1 rfl)
  have f0 := (box_cell (at_get AF 1 rfl) 0).2
  have f1 := (box_cell (at_get AF 1 rfl) 1).2
  have f2 := (box_cell (at_get AF 1 rfl) 2).2
  have f3 := (box_cell (at_get AF 1 rfl) 3).2
  have f4 := (box_cell (at_get AF 1 rfl) 4).2
  have AG := at_set (at_set (at_set (at_set (at_set AF 1 rfl 0 (.string t1.text)) 1 rfl 1 (.string t3.text)) 1 rfl 2 (.int .u8 n)) 1 rfl 3 (.string t0.text)) 1 rfl 4 (.string t8.text)
  obtain ⟨x0, x1, x2, x3, x4⟩ := cell5m (at_get AG 1 rfl)
  go_wp2_with fail
  try simp only [Exit.inBlock, Exit.then]
  refine bodyPost_ret (v := .agg #[.string t1.text, .string t3.text, .int .u8 n, .string t0.text, .string t8.text]) (by simp [results, Tryz.results41, go_sem, x0, x1, x2, x3, x4]) rfl ?_
  exact ⟨rfl, at_erase (at_erase AG 0) 0⟩
set_option maxRecDepth 100000 in
set_option maxHeartbeats 8000000 in
theorem pmeth_any {t0 t1 t2 t3 t4 t5 t6 t9 : TokD} (hkw : Hid (Kw W)) (n : Int) (hend : Hid (∀ w, Calls Tryz.prog 72 #[.string t6.text] w fun e w' => e = .returned (.int .u8 n) ∧ w' = w)) (h0 : Hid (t0.kind = 1 ∧ t0.text ∈ [⟨#[103, 105, 118, 101]⟩, ⟨#[116, 97, 107, 101]⟩, ⟨#[110, 111, 116, 101]⟩])) (h1 : Hid (NameK t1)) (h2 : Hid (SignK ⟨#[40]⟩ t2)) (h3 : Hid (NameK t3)) (h4 : Hid (SignK ⟨#[41]⟩ t4)) (h5 : Hid (SignK ⟨#[45, 62]⟩ t5)) (h6 : Hid (t6.kind = 1 ∧ t6.text ∈ [⟨#[105, 110, 116]⟩, ⟨#[110, 111, 110, 101]⟩])) (h9 : Hid (SignK ⟨#[59]⟩ t9)) (h : Hid (At W r (t0 :: t1 :: t2 :: t3 :: t4 :: t5 :: t6 :: t9 :: l) w ts)) :
    Calls Tryz.prog 41 #[.pointer (some ⟨r, 0, none⟩)] w fun e w' => e = .returned (.agg #[.string t1.text, .string t3.text, .int .u8 n, .string t0.text, .string ⟨#[]⟩]) ∧ Hid (At W r l w' ts) := by
  obtain ⟨w1, r2, HW1, HR2, A1⟩ := at_lay h (.cells #[.string ⟨#[]⟩, .string ⟨#[]⟩, .int .u8 0, .string ⟨#[]⟩, .string ⟨#[]⟩] 85)
  obtain ⟨w2, r4, HW2, HR4, A2⟩ := at_lay A1 (.cells #[.string ⟨#[103, 105, 118, 101]⟩, .string ⟨#[116, 97, 107, 101]⟩, .string ⟨#[110, 111, 116, 101]⟩] 9)
  have R2 : Hid (Rd w2 1 (.slice (some ⟨r4, 0, none⟩) 3 3) 3 ([⟨#[103, 105, 118, 101]⟩, ⟨#[116, 97, 107, 101]⟩, ⟨#[110, 111, 116, 101]⟩].flatMap sc)) := hide (by rw [HW2.out, HR4.out]; exact rd_new w1 9 _ [⟨#[103, 105, 118, 101]⟩, ⟨#[116, 97, 107, 101]⟩, ⟨#[110, 111, 116, 101]⟩] rfl)
  have C2 := hide (pwords_any (.slice (some ⟨r4, 0, none⟩) 3 3) [⟨#[103, 105, 118, 101]⟩, ⟨#[116, 97, 107, 101]⟩, ⟨#[110, 111, 116, 101]⟩] h0.out.2 (by decide) R2 (hide h0.out.1) A2)
  clear h
  go_enter Tryz.func41, Tryz.ntmps41
  go_upto_region 1 with (fail)
  rw [← HW1.out, ← HR2.out]
  go_wp2_with (rw [← HW2.out, ← HR4.out])
  refine C2.out.mono ?_
  rintro e w3 ⟨rfl, A3⟩
  clear C2 A2 A1 HW1 HR2 HW2 HR4 R2
  have A3 := at_erase A3 0
  have C3 := hide (pname_any (hide h1.out.1) hkw h1.out.2 A3)
  go_wp2_with fail
  refine C3.out.mono ?_
  rintro e w4 ⟨rfl, A4⟩
  clear C3 A3
  have C4 := hide (parg_any hkw h2 h3 h4 A4)
  go_wp2_with fail
  refine C4.out.mono ?_
  rintro e w5 ⟨rfl, A5⟩
  clear C4 A4
  obtain ⟨w6, r3, HW6, HR6, A6⟩ := at_lay A5 (.cells #[.string t1.text, .string t3.text, .int .u8 0, .string t0.text, .string ⟨#[]⟩] 85)
  have C6 := hide (want_to ⟨#[45, 62]⟩ (hide h5.out.2) (hide h5.out.1) A6)
  go_upto_region 2 with (fail)
  rw [← HW6.out, ← HR6.out]
  go_wp2_with fail
  refine C6.out.mono ?_
  rintro e w7 ⟨rfl, A7⟩
  clear C6 A6 A5 HW6 HR6
  obtain ⟨w8, r5, HW8, HR8, A8⟩ := at_lay A7 (.cells #[.string ⟨#[105, 110, 116]⟩, .string ⟨#[110, 111, 110, 101]⟩] 9)
  have R8 : Hid (Rd w8 1 (.slice (some ⟨r5, 0, none⟩) 2 2) 2 ([⟨#[105, 110, 116]⟩, ⟨#[110, 111, 110, 101]⟩].flatMap sc)) := hide (by rw [HW8.out, HR8.out]; exact rd_new w7 9 _ [⟨#[105, 110, 116]⟩, ⟨#[110, 111, 110, 101]⟩] rfl)
  have C8 := hide (pwords_any (.slice (some ⟨r5, 0, none⟩) 2 2) [⟨#[105, 110, 116]⟩, ⟨#[110, 111, 110, 101]⟩] h6.out.2 (by decide) R8 (hide h6.out.1) A8)
  go_wp2_with (rw [← HW8.out, ← HR8.out])
  refine C8.out.mono ?_
  rintro e w9 ⟨rfl, A9⟩
  clear C8 A8 A7 HW8 HR8 R8
  have A9 := at_erase A9 0
  go_wp2_with fail
  refine (hend.out _).mono ?_
  rintro e wa ⟨rfl, rfl⟩
  obtain ⟨c0, c1, c2, c3, c4⟩ := cell5m (at_get A9 0 rfl)
  have f2 := (box_cell (at_get A9 0 rfl) 2).2
  have A10 : Hid (At W r (t9 :: l) (wa.setCell ⟨r3, 2, none⟩ (.int .u8 n)) (box r3 (.cells #[.string t1.text, .string t3.text, .int .u8 n, .string t0.text, .string ⟨#[]⟩] 85 (0, 0)) :: box r2 (.cells #[.string ⟨#[]⟩, .string ⟨#[]⟩, .int .u8 0, .string ⟨#[]⟩, .string ⟨#[]⟩] 85 (0, 0)) :: ts)) := at_set A9 0 rfl 2 (.int .u8 n)
  go_upto_region 4 with (fail)
  generalize wa.setCell ⟨r3, 2, none⟩ (.int .u8 n) = wb at *
  clear c0 c1 c2 c3 c4 f2 A9
  have CB := hide (take_no ⟨#[117, 110, 100, 111]⟩ (by rw [h9.out.2]; decide) h9.out.1 A10)
  have AE := A10
  go_wp2_with fail
  refine CB.out.mono ?_
  rintro e wc ⟨rfl, rfl⟩
  clear CB
  have CE := hide (want_to ⟨#[59]⟩ (hide h9.out.2) (hide h9.out.1) AE)
  clear A10
  go_wp2_with fail
  refine CE.out.mono ?_
  rintro e wf ⟨rfl, AF⟩
  clear CE AE
  obtain ⟨c0, c1, c2, c3, c4⟩ := cell5m (at_get AF 0 rfl)
  obtain ⟨d0, d1, d2, d3, d4⟩ := cell5m (at_get AF 1 rfl)
  have f0 := (box_cell (at_get AF 1 rfl) 0).2
  have f1 := (box_cell (at_get AF 1 rfl) 1).2
  have f2 := (box_cell (at_get AF 1 rfl) 2).2
  have f3 := (box_cell (at_get AF 1 rfl) 3).2
  have f4 := (box_cell (at_get AF 1 rfl) 4).2
  have AG := at_set (at_set (at_set (at_set (at_set AF 1 rfl 0 (.string t1.text)) 1 rfl 1 (.string t3.text)) 1 rfl 2 (.int .u8 n)) 1 rfl 3 (.string t0.text)) 1 rfl 4 (.string ⟨#[]⟩)
  obtain ⟨x0, x1, x2, x3, x4⟩ := cell5m (at_get AG 1 rfl)
  go_wp2_with fail
  try simp only [Exit.inBlock, Exit.then]
  refine bodyPost_ret (v := .agg #[.string t1.text, .string t3.text, .int .u8 n, .string t0.text, .string ⟨#[]⟩]) (by simp [results, Tryz.results41, go_sem, x0, x1, x2, x3, x4]) rfl ?_
  exact ⟨rfl, at_erase (at_erase AG 0) 0⟩
end
end Go.Proofs.YtnljdcghaecdaaaGreatDoor
/-
  What stands between braces, read. (Printed by mkpsw.py.)
-/
namespace Go.Proofs.YtnljdcghaecdaaaGreatDoor
open Go.RowKit Go.Lib Go.Maps
attribute [local go_sem] Oper.semAt_some

/-- Elements, each by its tokens, up to a brace. -/
inductive Runs {α : Type} (K : List TokD → α → Prop) : List TokD → List α → List TokD → Prop
  | nil {t : TokD} {l : List TokD} : SignK ⟨#[125]⟩ t → Runs K (t :: l) [] l
  | cons {ks m l : List TokD} {x : α} {xs : List α} : K ks x → Runs K m xs l → Runs K (ks ++ m) (x :: xs) l
def EndW (x : ByteArray) (n : Int) : Prop := ∀ w, Calls Tryz.prog 72 #[.string x] w fun e w' => e = .returned (.int .u8 n) ∧ w' = w
def NotB (t : TokD) : Prop := t.kind ≠ 2 ∧ t.text ≠ ⟨#[125]⟩
def FK (ks : List TokD) (x : ByteArray × Int) : Prop := ∃ t0 t1 t2 t3, ks = [t0, t1, t2, t3] ∧ x.1 = t0.text ∧ NotB t0 ∧ NameK t0 ∧ SignK ⟨#[58]⟩ t1 ∧ t2.kind = 1 ∧ EndW t2.text x.2 ∧ t2.text ≠ ⟨#[108, 105, 115, 116]⟩ ∧ t2.text ≠ ⟨#[111, 112, 116]⟩ ∧ x.2 ≠ 0 ∧ SignK ⟨#[59]⟩ t3
def MK (ks : List TokD) (x : MethD) : Prop := ∃ t0 t1 t2 t3 t4 t5 t6 t9, NotB t0 ∧ (t0.kind = 1 ∧ t0.text ∈ [⟨#[103, 105, 118, 101]⟩, ⟨#[116, 97, 107, 101]⟩, ⟨#[110, 111, 116, 101]⟩]) ∧ NameK t1 ∧ SignK ⟨#[40]⟩ t2 ∧ NameK t3 ∧ SignK ⟨#[41]⟩ t4 ∧ SignK ⟨#[45, 62]⟩ t5 ∧ (t6.kind = 1 ∧ t6.text ∈ [⟨#[105, 110, 116]⟩, ⟨#[110, 111, 110, 101]⟩]) ∧ EndW t6.text x.result ∧ SignK ⟨#[59]⟩ t9 ∧ x.name = t1.text ∧ x.arg = t3.text ∧ x.effect = t0.text ∧
  ((ks = [t0, t1, t2, t3, t4, t5, t6, t9] ∧ x.undo = ⟨#[]⟩) ∨ ∃ t7 t8, ks = [t0, t1, t2, t3, t4, t5, t6, t7, t8, t9] ∧ SignK ⟨#[117, 110, 100, 111]⟩ t7 ∧ NameK t8 ∧ x.undo = t8.text)
def SK (ks : List TokD) (x : StepD) : Prop := ∃ t0 t1 t2 t3 t4 t5 t6, ks = [t0, t1, t2, t3, t4, t5, t6] ∧ NotB t0 ∧ SignK ⟨#[100, 111]⟩ t0 ∧ NameK t1 ∧ SignK ⟨#[46]⟩ t2 ∧ NameK t3 ∧ SignK ⟨#[97, 116]⟩ t4 ∧ t5.kind = 2 ∧ SignK ⟨#[59]⟩ t6 ∧ x = ⟨t1.text, t3.text, t5.num⟩
def sthing (B : Nat) (f : FieldD) : Thing := row B 44 2 f.tv f.ts.length (f.ts.flatMap sortc)
theorem info63w : (Tryz.prog.info? 63).map (fun i => (i.zero, i.size, i.bytes)) = some (some (.agg #[.string ⟨#[]⟩, .slice none 0 0]), 2, 40) := by kernel_rfl
theorem info85w : (Tryz.prog.info? 85).map (fun i => (i.zero, i.size, i.bytes)) = some (some (.agg #[.string ⟨#[]⟩, .string ⟨#[]⟩, .int .u8 0, .string ⟨#[]⟩, .string ⟨#[]⟩]), 5, 72) := by kernel_rfl
theorem info90w : (Tryz.prog.info? 90).map (fun i => (i.zero, i.size, i.bytes)) = some (some (.agg #[.string ⟨#[]⟩, .string ⟨#[]⟩, .int .i64 0]), 3, 40) := by kernel_rfl
section
variable {W w : World} {r : Nat} {t : TokD} {l : List TokD} {ts : List Thing}
theorem at_more {w2 : World} {B e m k k' : Nat} {v v' : Value} {xs xs' : List Value} (h : Hid (At W r l w ts)) (n : Nat) (hn : ts[n]? = some (row B e m v k xs)) (ho : w2.ownsRow B e m v' k' xs') (t : Turn (fun k => v.ownBlock = some k) w w2) (hnw : Newer w v v') : Hid (At W r l w2 (ts.set n (row B e m v' k' xs'))) := by
  obtain ⟨A, c, hc, hr, hL⟩ := h.out
  exact hide ⟨A, c, hc, hr, hL.step (n + 1) (t' := row B e m v' k' xs') hn t ho (fun k hk => hnw k hk)⟩
theorem at_none {e m : Nat} (h : Hid (At W r l w ts)) : Hid (At W r l w (row W.heap.size e m (.slice none 0 0) 0 [] :: ts)) := by
  obtain ⟨A, c, hc, hr, hL⟩ := h.out
  exact hide ⟨A, c, hc, hr, Lie.swap (hL.push (t := row W.heap.size e m (.slice none 0 0) 0 []) (Turn.refl _ _) (World.ownsRow_nil _ _ _ _) (fun k hk => by cases hk))⟩
theorem at_bad (h : Hid (At W r l w ts)) : ∃ v, w.cell? ⟨r, 0, none⟩ = some v ∧ w.cell? ⟨r, 1, none⟩ = some (.bool false) ∧ W.heap.size ≤ w.heap.size := by
  obtain ⟨A, c, hc, hr, hL⟩ := h.out
  obtain ⟨c0, c1, _, _⟩ := cell2 (hL.get 0 rfl)
  exact ⟨_, c0, c1, hL.base_le⟩

set_option maxRecDepth 100000 in
set_option maxHeartbeats 8000000 in
theorem pfields_any {m : List TokD} {xs : List (ByteArray × Int)} (hkw : Hid (Kw W)) (h0 : Hid (SignK ⟨#[123]⟩ t)) (hx : xs.length ≤ 1000) (hr : Hid (Runs FK m xs l)) (h : Hid (At W r (t :: m) w ts)) :
    Calls Tryz.prog 38 #[.pointer (some ⟨r, 0, none⟩), .func (.func 39) #[.pointer (some ⟨r, 0, none⟩)] #[]] w fun e w' => ∃ (v : Value) (d : List FieldD), e = .returned v ∧ Hid (d.map (fun f => (f.name, f.ts)) = xs.map (fun x => (x.1, [(⟨x.2, ⟨#[]⟩⟩ : SortD)]))) ∧ Hid (At W r l w' (row W.heap.size 63 2 v d.length (d.flatMap fieldc) :: (d.reverse.map (sthing W.heap.size) ++ ts))) := by
  obtain ⟨i0, hi0, hz0, hz1, hz2⟩ := info_parts info63w
  have C0 := hide (want_to ⟨#[123]⟩ (hide h0.out.2) (hide h0.out.1) h)
  clear h h0
  go_enter Tryz.func38, Tryz.ntmps38
  go_wp2_with fail
  refine C0.out.mono ?_
  rintro e w1 ⟨rfl, A0⟩
  have A1 := at_none (e := 63) (m := 2) A0
  clear A0 C0
  go_wp2_with fail
  go_loopg [5] xs.length (fun g v wr => ∃ (d : List FieldD) (rest : List (ByteArray × Int)) (mm : List TokD), rest.length ≤ g ∧ Hid (d.map (fun f => (f.name, f.ts)) ++ rest.map (fun x => (x.1, [(⟨x.2, ⟨#[]⟩⟩ : SortD)])) = xs.map (fun x => (x.1, [(⟨x.2, ⟨#[]⟩⟩ : SortD)]))) ∧ Hid (Runs FK mm rest l) ∧ Hid (At W r mm wr (row W.heap.size 63 2 v d.length (d.flatMap fieldc) :: (d.reverse.map (sthing W.heap.size) ++ ts))))
  case atStart => exact ⟨[], xs, m, Nat.le_refl _, hide (by simp), hr, A1⟩
  case round =>
  clear A1 hr
  obtain ⟨d, rest, mm, hg, HM, HR, A1⟩ := hrel
  obtain ⟨A, c, rfl⟩ := (Rd.of_own (at_get A1 0 rfl)).shape
  obtain ⟨pv, p0, p1, hbb⟩ := at_bad A1
  have hR := HR.out
  cases hR with
  | nil hs =>
    have CT := hide (take_yes hs.1 A1)
    rw [hs.2] at CT
    clear hs
    go_wp2_with fail
    refine CT.out.mono ?_
    rintro e w2 ⟨rfl, A2⟩
    clear CT A1 p0 p1
    go_wp2_with fail
    go_ret
    exact ⟨_, d, rfl, hide (by have := HM.out; simpa using this), A2⟩
  | cons hk hm =>
    rename_i ks m2 x xs2
    have HK := hide hk
    have HM2 := hide hm
    have hg2 : xs2.length + 1 ≤ _ := hg
    have hdl : d.length + xs2.length + 1 ≤ 1000 := by
      have := congrArg List.length HM.out
      simp at this
      omega
    clear hk hm HR
    obtain ⟨t0, t1, t2, t3, rfl, hx1, hnb, hn, hc1, hk2, hen, hl1, hl2, hz, hc3⟩ := HK.out
    have CN := hide (take_no ⟨#[125]⟩ hnb.2 hnb.1 A1)
    have CB := hide (pfield_any hkw x.2 hz (hide hen) (hide hl1) (hide hl2) (hide hk2) (hide hn) (hide hc1) (hide hc3) A1)
    clear hn hc1 hk2 hen hl1 hl2 hz hc3 hnb
    go_wp2_with fail
    refine CN.out.mono ?_
    rintro e w2 ⟨rfl, rfl⟩
    clear p0 p1 CN
    go_wp2_with fail
    refine CB.out.mono ?_
    rintro e w3 ⟨v, rfl, A3⟩
    clear CB A1
    obtain ⟨As, cs, rfl⟩ := (Rd.of_own (at_get A3 0 rfl)).shape
    obtain ⟨w4, r6, HW4, HR4, A4⟩ := at_lay A3 (.cells #[.string t0.text, .slice As 1 cs] 63)
    go_upto_region 5 with (fail)
    rw [← HW4.out, ← HR4.out]
    clear A3 HW4 HR4
    obtain ⟨pv, p0, p1, hbb⟩ := at_bad A4
    obtain ⟨c0, c1, f0, f1⟩ := cell2 (at_get A4 0 rfl)
    have OWN : Hid (w4.ownsRow W.heap.size 63 2 (.slice A d.length c) d.length (d.flatMap fieldc)) := hide (at_get A4 2 rfl)
    go_wp2_with (at_builtin; refine wpList_append1 rfl (.tmp 26) (.tmp 28) 59 rfl W.heap.size 63 i0 _ 2 40 Tryz.underlying59 hi0 hz0 hz1 hz2 rfl (by decide) (.slice A d.length c) d.length _ (by simp [Act.eval]) OWN.out [.string t0.text, .slice As 1 cs] (by simp [Act.eval]) rfl (by intro u hu; simp at hu; rcases hu with rfl | rfl <;> rfl) (by omega) (by omega) hbb ?_; intro v' w5 ho t2 hnw; have A5 := at_more A4 2 rfl ho t2 hnw; clear ho t2 hnw)
    go_roundg xs2.length
    case measure => omega
    case rel =>
      refine ⟨d ++ [{ name := t0.text, ts := [⟨x.2, ⟨#[]⟩⟩], tv := .slice As 1 cs }], xs2, m2, Nat.le_refl _, hide ?_, HM2, ?_⟩
      · have hm := HM.out; simp only [List.map_cons] at hm; rw [List.map_append, List.append_assoc, ← hm, ← hx1]; rfl
      · rw [List.length_append, List.flatMap_append, List.reverse_append]
        exact at_swap (at_erase A5 0)
set_option maxRecDepth 100000 in
set_option maxHeartbeats 8000000 in
theorem pmeths_any {m : List TokD} {xs : List (MethD)} (hkw : Hid (Kw W)) (h0 : Hid (SignK ⟨#[123]⟩ t)) (hx : xs.length ≤ 1000) (hr : Hid (Runs MK m xs l)) (h : Hid (At W r (t :: m) w ts)) :
    Calls Tryz.prog 40 #[.pointer (some ⟨r, 0, none⟩), .func (.func 41) #[.pointer (some ⟨r, 0, none⟩)] #[]] w fun e w' => ∃ (v : Value) (d : List MethD), e = .returned v ∧ Hid (d = xs) ∧ Hid (At W r l w' (row W.heap.size 85 5 v d.length (d.flatMap methc) :: (ts))) := by
  obtain ⟨i0, hi0, hz0, hz1, hz2⟩ := info_parts info85w
  have C0 := hide (want_to ⟨#[123]⟩ (hide h0.out.2) (hide h0.out.1) h)
  clear h h0
  go_enter Tryz.func40, Tryz.ntmps40
  go_wp2_with fail
  refine C0.out.mono ?_
  rintro e w1 ⟨rfl, A0⟩
  have A1 := at_none (e := 85) (m := 5) A0
  clear A0 C0
  go_wp2_with fail
  go_loopg [5] xs.length (fun g v wr => ∃ (d : List MethD) (rest : List (MethD)) (mm : List TokD), rest.length ≤ g ∧ Hid (d ++ rest = xs) ∧ Hid (Runs MK mm rest l) ∧ Hid (At W r mm wr (row W.heap.size 85 5 v d.length (d.flatMap methc) :: (ts))))
  case atStart => exact ⟨[], xs, m, Nat.le_refl _, hide (by simp), hr, A1⟩
  case round =>
  clear A1 hr
  obtain ⟨d, rest, mm, hg, HM, HR, A1⟩ := hrel
  obtain ⟨A, c, rfl⟩ := (Rd.of_own (at_get A1 0 rfl)).shape
  obtain ⟨pv, p0, p1, hbb⟩ := at_bad A1
  have hR := HR.out
  cases hR with
  | nil hs =>
    have CT := hide (take_yes hs.1 A1)
    rw [hs.2] at CT
    clear hs
    go_wp2_with fail
    refine CT.out.mono ?_
    rintro e w2 ⟨rfl, A2⟩
    clear CT A1 p0 p1
    go_wp2_with fail
    go_ret
    exact ⟨_, d, rfl, hide (by have := HM.out; simpa using this), A2⟩
  | cons hk hm =>
    rename_i ks m2 x xs2
    have HK := hide hk
    have HM2 := hide hm
    have hg2 : xs2.length + 1 ≤ _ := hg
    have hdl : d.length + xs2.length + 1 ≤ 1000 := by
      have := congrArg List.length HM.out
      simp at this
      omega
    clear hk hm HR
    obtain ⟨t0, t1, t2, t3, t4, t5, t6, t9, hnb, h0, h1, h2, h3, h4, h5, h6, hen, h9, hxn, hxa, hxe, hu⟩ := HK.out
    have CN : Hid (Calls Tryz.prog 67 #[.pointer (some ⟨r, 0, none⟩), .string ⟨#[125]⟩] wr fun e w' => e = .returned (.bool false) ∧ w' = wr) := by
      rcases hu with ⟨rfl, hu⟩ | ⟨t7, t8, rfl, h7, h8, hu⟩
      · exact hide (take_no ⟨#[125]⟩ hnb.2 hnb.1 A1)
      · exact hide (take_no ⟨#[125]⟩ hnb.2 hnb.1 A1)
    have CB : Hid (Calls Tryz.prog 41 #[.pointer (some ⟨r, 0, none⟩)] wr fun e w' => e = .returned (.agg #[.string x.name, .string x.arg, .int .u8 x.result, .string x.effect, .string x.undo]) ∧ Hid (At W r m2 w' (row W.heap.size 85 5 (.slice A d.length c) d.length (d.flatMap methc) :: ts))) := by
      rw [hxn, hxa, hxe]
      rcases hu with ⟨rfl, hu⟩ | ⟨t7, t8, rfl, h7, h8, hu⟩
      · rw [hu]
        exact hide (pmeth_any hkw x.result (hide hen) (hide h0) (hide h1) (hide h2) (hide h3) (hide h4) (hide h5) (hide h6) (hide h9) A1)
      · rw [hu]
        exact hide (pmethu_any hkw x.result (hide hen) (hide h0) (hide h1) (hide h2) (hide h3) (hide h4) (hide h5) (hide h6) (hide h7) (hide h8) (hide h9) A1)
    clear HK
    clear hnb h0 h1 h2 h3 h4 h5 h6 hen h9 hxn hxa hxe hu
    go_wp2_with fail
    refine CN.out.mono ?_
    rintro e w2 ⟨rfl, rfl⟩
    clear p0 p1 CN
    go_wp2_with fail
    refine CB.out.mono ?_
    rintro e w3 ⟨rfl, A3⟩
    clear CB A1
    obtain ⟨w4, r6, HW4, HR4, A4⟩ := at_lay A3 (.cells #[.string x.name, .string x.arg, .int .u8 x.result, .string x.effect, .string x.undo] 85)
    go_upto_region 5 with (fail)
    rw [← HW4.out, ← HR4.out]
    clear A3 HW4 HR4
    obtain ⟨pv, p0, p1, hbb⟩ := at_bad A4
    obtain ⟨c0, c1, c2, c3, c4⟩ := cell5m (at_get A4 0 rfl)
    have OWN : Hid (w4.ownsRow W.heap.size 85 5 (.slice A d.length c) d.length (d.flatMap methc)) := hide (at_get A4 1 rfl)
    go_wp2_with (at_builtin; refine wpList_append1 rfl (.tmp 26) (.tmp 28) 81 rfl W.heap.size 85 i0 _ 5 72 Tryz.underlying81 hi0 hz0 hz1 hz2 rfl (by decide) (.slice A d.length c) d.length _ (by simp [Act.eval]) OWN.out [.string x.name, .string x.arg, .int .u8 x.result, .string x.effect, .string x.undo] (by simp [Act.eval]) rfl (by intro u hu; simp at hu; rcases hu with rfl | rfl | rfl | rfl | rfl <;> rfl) (by omega) (by omega) hbb ?_; intro v' w5 ho t2 hnw; have A5 := at_more A4 1 rfl ho t2 hnw; clear ho t2 hnw)
    go_roundg xs2.length
    case measure => omega
    case rel =>
      refine ⟨d ++ [x], xs2, m2, Nat.le_refl _, hide ?_, HM2, ?_⟩
      · rw [List.append_assoc]; exact HM.out
      · rw [List.length_append, List.flatMap_append]
        exact at_erase A5 0
set_option maxRecDepth 100000 in
set_option maxHeartbeats 8000000 in
theorem psteps_any {m : List TokD} {xs : List (StepD)} (hkw : Hid (Kw W)) (h0 : Hid (SignK ⟨#[123]⟩ t)) (hx : xs.length ≤ 1000) (hr : Hid (Runs SK m xs l)) (h : Hid (At W r (t :: m) w ts)) :
    Calls Tryz.prog 43 #[.pointer (some ⟨r, 0, none⟩), .func (.func 44) #[.pointer (some ⟨r, 0, none⟩)] #[]] w fun e w' => ∃ (v : Value) (d : List StepD), e = .returned v ∧ Hid (d = xs) ∧ Hid (At W r l w' (row W.heap.size 90 3 v d.length (d.flatMap stepc) :: (ts))) := by
  obtain ⟨i0, hi0, hz0, hz1, hz2⟩ := info_parts info90w
  have C0 := hide (want_to ⟨#[123]⟩ (hide h0.out.2) (hide h0.out.1) h)
  clear h h0
  go_enter Tryz.func43, Tryz.ntmps43
  go_wp2_with fail
  refine C0.out.mono ?_
  rintro e w1 ⟨rfl, A0⟩
  have A1 := at_none (e := 90) (m := 3) A0
  clear A0 C0
  go_wp2_with fail
  go_loopg [5] xs.length (fun g v wr => ∃ (d : List StepD) (rest : List (StepD)) (mm : List TokD), rest.length ≤ g ∧ Hid (d ++ rest = xs) ∧ Hid (Runs SK mm rest l) ∧ Hid (At W r mm wr (row W.heap.size 90 3 v d.length (d.flatMap stepc) :: (ts))))
  case atStart => exact ⟨[], xs, m, Nat.le_refl _, hide (by simp), hr, A1⟩
  case round =>
  clear A1 hr
  obtain ⟨d, rest, mm, hg, HM, HR, A1⟩ := hrel
  obtain ⟨A, c, rfl⟩ := (Rd.of_own (at_get A1 0 rfl)).shape
  obtain ⟨pv, p0, p1, hbb⟩ := at_bad A1
  have hR := HR.out
  cases hR with
  | nil hs =>
    have CT := hide (take_yes hs.1 A1)
    rw [hs.2] at CT
    clear hs
    go_wp2_with fail
    refine CT.out.mono ?_
    rintro e w2 ⟨rfl, A2⟩
    clear CT A1 p0 p1
    go_wp2_with fail
    go_ret
    exact ⟨_, d, rfl, hide (by have := HM.out; simpa using this), A2⟩
  | cons hk hm =>
    rename_i ks m2 x xs2
    have HK := hide hk
    have HM2 := hide hm
    have hg2 : xs2.length + 1 ≤ _ := hg
    have hdl : d.length + xs2.length + 1 ≤ 1000 := by
      have := congrArg List.length HM.out
      simp at this
      omega
    clear hk hm HR
    obtain ⟨t0, t1, t2, t3, t4, t5, t6, rfl, hnb, h0, h1, h2, h3, h4, h5, h6, hx1⟩ := HK.out
    have CN : Hid (Calls Tryz.prog 67 #[.pointer (some ⟨r, 0, none⟩), .string ⟨#[125]⟩] wr fun e w' => e = .returned (.bool false) ∧ w' = wr) := by
      exact hide (take_no ⟨#[125]⟩ hnb.2 hnb.1 A1)
    have CB : Hid (Calls Tryz.prog 44 #[.pointer (some ⟨r, 0, none⟩)] wr fun e w' => e = .returned (.agg #[.string x.srv, .string x.mth, .int .i64 x.node]) ∧ Hid (At W r m2 w' (row W.heap.size 90 3 (.slice A d.length c) d.length (d.flatMap stepc) :: ts))) := by
      rw [hx1]
      exact hide (pstep_any hkw (hide h0) (hide h1) (hide h2) (hide h3) (hide h4) (hide h5) (hide h6) A1)
    clear HK
    clear hnb h0 h1 h2 h3 h4 h5 h6 hx1
    go_wp2_with fail
    refine CN.out.mono ?_
    rintro e w2 ⟨rfl, rfl⟩
    clear p0 p1 CN
    go_wp2_with fail
    refine CB.out.mono ?_
    rintro e w3 ⟨rfl, A3⟩
    clear CB A1
    obtain ⟨w4, r6, HW4, HR4, A4⟩ := at_lay A3 (.cells #[.string x.srv, .string x.mth, .int .i64 x.node] 90)
    go_upto_region 5 with (fail)
    rw [← HW4.out, ← HR4.out]
    clear A3 HW4 HR4
    obtain ⟨pv, p0, p1, hbb⟩ := at_bad A4
    obtain ⟨c0, c1, c2⟩ := cell3 (at_get A4 0 rfl)
    have OWN : Hid (w4.ownsRow W.heap.size 90 3 (.slice A d.length c) d.length (d.flatMap stepc)) := hide (at_get A4 1 rfl)
    go_wp2_with (at_builtin; refine wpList_append1 rfl (.tmp 26) (.tmp 28) 86 rfl W.heap.size 90 i0 _ 3 40 Tryz.underlying86 hi0 hz0 hz1 hz2 rfl (by decide) (.slice A d.length c) d.length _ (by simp [Act.eval]) OWN.out [.string x.srv, .string x.mth, .int .i64 x.node] (by simp [Act.eval]) rfl (by intro u hu; simp at hu; rcases hu with rfl | rfl | rfl <;> rfl) (by omega) (by omega) hbb ?_; intro v' w5 ho t2 hnw; have A5 := at_more A4 1 rfl ho t2 hnw; clear ho t2 hnw)
    go_roundg xs2.length
    case measure => omega
    case rel =>
      refine ⟨d ++ [x], xs2, m2, Nat.le_refl _, hide ?_, HM2, ?_⟩
      · rw [List.append_assoc]; exact HM.out
      · rw [List.length_append, List.flatMap_append]
        exact at_erase A5 0
end
end Go.Proofs.YtnljdcghaecdaaaGreatDoor
namespace Go.Proofs.YtnljdcghaecdaaaGreatDoor
open Go.RowKit Go.Lib Go.Maps
attribute [local go_sem] Oper.semAt_some

section
variable {P : Program} {w : World}
theorem step_append1 {ops : Array Oper} {o : Oper} {a : Act} {K : Act → World → Prop} {Q : Exit → Act → World → Prop} {E : Prop} (hgd : o.guard = none) (s x : Operand) (t : TypeId)
    (ho : o.op = .call { callee := .builtin .append, args := #[s, x], argTypes := #[t, t] })
    (base : Nat) (e : TypeId) (i : TypeInfo) (z : Value) (size bytes : Nat) (ht : P.underlying t = some (.slice e)) (hi : P.info? e = some i) (hz : i.zero = some z)
    (hsize : i.size = size) (hby : i.bytes = bytes) (hzs : z.cells.size = size) (hsz : 0 < size)
    (v : Value) (n : Nat) (xs : List Value) (hs : a.eval s = v) (hown : w.ownsRow base e size v n xs)
    (ys : List Value) (hx : a.eval x = .slice (some ⟨w.heap.size, 0, none⟩) 1 1) (hl : ys.length = size) (h1 : ∀ u ∈ ys, u.oneCell' = true)
    (h63 : n + 1 ≤ 1000000) (hb2 : bytes ≤ 1000) (hbase : base ≤ w.heap.size)
    (h : ∀ v' w', w'.ownsRow base e size v' (n + 1) (xs ++ ys) → Turn (fun k => v.ownBlock = some k) w w' → Newer w v v' → K (a.put o.dst v') w') :
    if Region.wanted o (yielded ops a.tmps) = true then Oper.wp P o a (w.alloc (.cells ys.toArray e)) K Q else E := by
  have hw : Region.wanted o (yielded ops a.tmps) = true := by simp [Region.wanted, hgd]
  rw [if_pos hw]
  obtain ⟨v', w', hr, h2, h3, _, hat⟩ := run_append_own_at (P := P) _ base t o.type e i z size bytes ht hi hz hsize hby hzs hsz v n xs (hown.alloc _) ⟨w.heap.size, 0, none⟩ 1 1 ys (by omega) (cells_new w ys e) h1 (by unfold maxLen; omega)
    (Nat.le_trans (Nat.mul_le_mul h63 hb2) (by omega)) (by simp; omega)
  unfold Oper.wp execOp
  simp only [ho, resolve, invoke, builtin, Sem.run_bind, Sem.run_pure, Result.andThen_ok, List.map_toArray, List.map_cons, List.map_nil, hs, hx, hr]
  refine h v' w' h2 (((Turn.refl _ w).alloc _).grown h3 (fun k _ hk => hk)) ?_
  intro g hg
  rcases hat with h2 | h2
  · exact .inl (h2 ▸ hg)
  · rw [h2] at hg
    simp at hg
    exact .inr (by omega)
end
section
variable {W w : World} {r : Nat} {t : TokD} {l : List TokD} {ts : List Thing}
theorem at_front {T : Thing} (us : List Thing) (h : Hid (At W r l w (us ++ T :: ts))) : Hid (At W r l w (T :: (us ++ ts))) := by
  obtain ⟨A, c, hc, hr, hL⟩ := h.out
  refine hide ⟨A, c, hc, hr, hL.pick (fun i => if i = 0 then 0 else if i = 1 then us.length + 1 else if i ≤ us.length + 1 then i - 1 else i) (fun i j _ _ h => ?_) (fun i u h => ?_)⟩
  · have h : (if i = 0 then 0 else if i = 1 then us.length + 1 else if i ≤ us.length + 1 then i - 1 else i) = (if j = 0 then 0 else if j = 1 then us.length + 1 else if j ≤ us.length + 1 then j - 1 else j) := h
    split at h <;> split at h <;> (try split at h) <;> (try split at h) <;> (try split at h) <;> (try split at h) <;> omega
  · match i with
    | 0 => exact h
    | 1 =>
      show (_ :: (us ++ T :: ts))[us.length + 1]? = some u
      rw [List.getElem?_cons_succ, List.getElem?_append_right (Nat.le_refl _), Nat.sub_self]
      exact h
    | k + 2 =>
      have h : (us ++ ts)[k]? = some u := h
      show (_ :: (us ++ T :: ts))[if k + 2 = 0 then 0 else if k + 2 = 1 then us.length + 1 else if k + 2 ≤ us.length + 1 then k + 2 - 1 else k + 2]? = some u
      rw [if_neg (by omega), if_neg (by omega)]
      by_cases hk : k + 2 ≤ us.length + 1
      · rw [if_pos hk, show k + 2 - 1 = k + 1 from rfl, List.getElem?_cons_succ, List.getElem?_append_left (by omega)]
        rwa [List.getElem?_append_left (by omega)] at h
      · rw [if_neg hk, List.getElem?_cons_succ, List.getElem?_append_right (by omega)]
        rw [List.getElem?_append_right (by omega)] at h
        rw [show k + 1 - us.length = (k - us.length) + 1 by omega, List.getElem?_cons_succ]
        exact h
theorem at_drew (h : Hid (At W r l w ts)) : Hid (At W r l w.drew ts) := by
  obtain ⟨A, c, hc, hr, hL⟩ := h.out
  exact hide ⟨A, c, hc, hr, hL.drew⟩
theorem at_skip (h : Hid (At W r l w ts)) (o : Obj) : Hid (At W r l (w.alloc o) ts) := by
  obtain ⟨A, c, hc, hr, hL⟩ := h.out
  exact hide ⟨A, c, hc, hr, hL.skip o⟩
theorem at_newrow {w2 : World} {e m n : Nat} {v' : Value} {xs : List Value} (h : Hid (At W r l w ts)) (ho : w2.ownsRow W.heap.size e m v' n xs) (t : Turn (fun k => (Value.slice none 0 0).ownBlock = some k) w w2) (hn : Newer w (.slice none 0 0) v') : Hid (At W r l w2 (row W.heap.size e m v' n xs :: ts)) := by
  obtain ⟨A, c, hc, hr, hL⟩ := h.out
  exact hide ⟨A, c, hc, hr, (lie_newrow hL ho t hn).swap⟩
end
end Go.Proofs.YtnljdcghaecdaaaGreatDoor
