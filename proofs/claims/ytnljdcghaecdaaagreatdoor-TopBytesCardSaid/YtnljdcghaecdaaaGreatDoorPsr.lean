/-
  A parser's steps.
-/
import Derived.Test.YtnljdcghaecdaaaGreatDoorLxa
namespace Go.Proofs.YtnljdcghaecdaaaGreatDoor
open Go.RowKit Go.Lib Go.Maps
attribute [local go_sem] Oper.semAt_some

abbrev prs (r : Nat) (v : Value) : Thing := box r (.cells #[v, .bool false] 95 (0, 0))
theorem tokc_len (t : TokD) : (tokc t).length = 4 := rfl
/-- The parser at r has these tokens left; the other things lie beside it. -/
def At (W : World) (r : Nat) (l : List TokD) (w : World) (ts : List Thing) : Prop :=
  ∃ A c, l.length ≤ c ∧ Rd W 4 (.slice A l.length c) l.length (l.flatMap tokc) ∧ Lie W.heap.size W w (prs r (.slice A l.length c) :: ts)
section
variable {W w : World} {r : Nat} {t : TokD} {l : List TokD} {ts : List Thing}
/-- What the first token reads. -/
theorem at_open (h : At W r (t :: l) w ts) : ∃ b o c, l.length + 1 ≤ c ∧ b < W.heap.size ∧ Hid (Rd W 4 (.slice (some ⟨b, o, none⟩) (l.length + 1) c) (l.length + 1) ((t :: l).flatMap tokc)) ∧ Hid (Lie W.heap.size W w (prs r (.slice (some ⟨b, o, none⟩) (l.length + 1) c) :: ts)) ∧
    w.cell? ⟨b, o, none⟩ = some (.int .u8 t.kind) ∧ w.cell? ⟨b, o + 1, none⟩ = some (.string t.text) ∧ w.cell? ⟨b, o + 2, none⟩ = some (.int .i64 t.num) ∧ w.cell? ⟨b, o + 3, none⟩ = some (.int .i64 t.pos) := by
  obtain ⟨A, c, hc, hr, hL⟩ := h
  have T := lie_turn (hide hL)
  obtain ⟨b, o, rfl, hb, hcell⟩ := (hr.turn T (fun _ _ _ h => h)).cells (Nat.succ_pos _)
  obtain ⟨b2, o2, e, hb2, _⟩ := hr.cells (Nat.succ_pos _)
  obtain ⟨rfl, rfl⟩ : b = b2 ∧ o = o2 := by cases e; exact ⟨rfl, rfl⟩
  refine ⟨b, o, c, hc, hb2, hide hr, hide hL, hcell 0 _ rfl, hcell 1 _ rfl, hcell 2 _ rfl, hcell 3 _ rfl⟩
/-- The tokens but the first. -/
theorem tok_tail {b o c : Nat} (h : Rd W 4 (.slice (some ⟨b, o, none⟩) (l.length + 1) c) (l.length + 1) ((t :: l).flatMap tokc)) (hc : l.length + 1 ≤ c) :
    Rd W 4 (.slice (some ⟨b, if c = 1 then o else o + 4, none⟩) l.length (c - 1)) l.length (l.flatMap tokc) := by
  obtain ⟨b2, o2, e, hb, hcell⟩ := h.cells (Nat.succ_pos _)
  cases e
  refine ⟨by rw [flat_length tokc_len], _, _, rfl, (fun h => by cases h), fun h0 => ⟨b, o + 4, ?_, hb, fun j u hj => ?_⟩⟩
  · rw [if_neg (by omega)]
  · have := hcell (4 + j) u (by rw [List.flatMap_cons, List.getElem?_append_right (by rw [tokc_len]; omega)]; simpa using hj)
    rw [Nat.add_assoc]; exact this
set_option maxRecDepth 100000 in
set_option maxHeartbeats 4000000 in
/-- Is it this word or sign? -/
theorem is_any (x : ByteArray) (hk : t.kind ≠ 2) (h : Hid (At W r (t :: l) w ts)) : Calls Tryz.prog 96 #[.pointer (some ⟨r, 0, none⟩), .string x] w fun e w' => e = .returned (.bool (decide (t.text = x))) ∧ w' = w := by
  obtain ⟨b, o, c, hc, hb, HR, HL, k0, k1, k2, k3⟩ := at_open h.out
  obtain ⟨c0, c1, f0, f1⟩ := cell2 (HL.out.get 0 rfl)
  have hk2 : (t.kind != 2) = true := by simp [hk]
  obtain ⟨bb, hbb⟩ : ∃ bb, bb = decide (t.text = x) := ⟨_, rfl⟩
  have hx : (t.text.toList == x.toList) = bb := by rw [str_eq, hbb]
  have hgt : decide ((0 : Int) < ((l.length + 1 : Nat) : Int)) = true := by simp
  go_enter Tryz.func96, Tryz.ntmps96
  go_wp2_with fail
  go_ret
  exact ⟨rfl, rfl⟩
/-- What a word or sign that is taken leaves. -/
def Leaves (W : World) (r : Nat) (l : List TokD) (ts : List Thing) (v : Value) (e : Ending) (w' : World) : Prop := e = .returned v ∧ Hid (At W r l w' ts)
set_option maxRecDepth 100000 in
set_option maxHeartbeats 4000000 in
theorem take_yes (hk : t.kind ≠ 2) (h : Hid (At W r (t :: l) w ts)) : Calls Tryz.prog 67 #[.pointer (some ⟨r, 0, none⟩), .string t.text] w (Leaves W r l ts (.bool true)) := by
  have CI := hide (is_any t.text hk h)
  obtain ⟨b, o, c, hc, hb, HR, HL, k0, k1, k2, k3⟩ := at_open h.out
  obtain ⟨c0, c1, f0, f1⟩ := cell2 (HL.out.get 0 rfl)
  have e1 : decide (t.text = t.text) = true := decide_eq_true rfl
  rw [e1] at CI
  clear k0 k1 k2 k3 h e1
  have HR3 := tok_tail HR.out hc
  by_cases h1 : c = 1
  all_goals
    first | rw [if_pos h1] at HR3 | rw [if_neg h1] at HR3
    have HR2 := hide HR3
    clear HR3
    first | (subst h1; obtain rfl : l = [] := List.length_eq_zero_iff.1 (by omega)) | skip
    have S2 := fun v => hide (HL.out.setBox 0 rfl 0 v)
    go_enter Tryz.func67, Tryz.ntmps67
    go_wp2_with fail
    refine CI.out.mono ?_
    rintro e w1 ⟨rfl, rfl⟩
    go_wp2_with fail
    go_ret
    exact ⟨rfl, hide ⟨_, _, by omega, HR2.out, (S2 _).out⟩⟩
set_option maxRecDepth 100000 in
set_option maxHeartbeats 4000000 in
theorem take_no (x : ByteArray) (hx : t.text ≠ x) (hk : t.kind ≠ 2) (h : Hid (At W r (t :: l) w ts)) : Calls Tryz.prog 67 #[.pointer (some ⟨r, 0, none⟩), .string x] w fun e w' => e = .returned (.bool false) ∧ w' = w := by
  have CI := hide (is_any x hk h)
  rw [decide_eq_false hx] at CI
  clear h hx
  go_enter Tryz.func67, Tryz.ntmps67
  go_wp2_with fail
  refine CI.out.mono ?_
  rintro e w1 ⟨rfl, rfl⟩
  go_wp2_with fail
  go_ret
  exact ⟨rfl, rfl⟩
set_option maxRecDepth 100000 in
set_option maxHeartbeats 4000000 in
theorem want_any (hk : t.kind ≠ 2) (h : Hid (At W r (t :: l) w ts)) : Calls Tryz.prog 35 #[.pointer (some ⟨r, 0, none⟩), .string t.text] w fun e w' => e = vd ∧ Hid (At W r l w' ts) := by
  have CT := hide (take_yes hk h)
  clear h
  go_enter Tryz.func35, Tryz.ntmps35
  go_wp2_with fail
  refine CT.out.mono ?_
  rintro e w1 ⟨rfl, S1⟩
  go_wp2_with fail
  first | refine bodyPost_ret (results_none rfl _ _ _) rfl ?_ | go_end0
  exact ⟨rfl, S1⟩
end
end Go.Proofs.YtnljdcghaecdaaaGreatDoor
