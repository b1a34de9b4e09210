/-
  Either and Move of both, over one state.
-/
import Derived.Test.YtjgdmdjndkkckaaSt
namespace Go.Proofs.Ytjgdmdjndkkckaa
open Go.Conc Go.RowKit

def Apart (x y : St) : Prop := ∀ a b, x = some a → y = some b → a.b ≠ b.b ∧ a.c ≠ b.c ∧ a.r ≠ b.r
theorem Apart.symm {x y : St} (h : Apart x y) : Apart y x := fun a b ha hb => ⟨fun e => (h b a hb ha).1 e.symm, fun e => (h b a hb ha).2.1 e.symm, fun e => (h b a hb ha).2.2 e.symm⟩
theorem apart_none (y : St) : Apart none y := by rintro a b ha; cases ha

section
variable {w w' : World} {x y : St} {base : Nat}
theorem BoxSt.keep (h : BoxSt w y) (hx : BoxSt w x) (ha : Apart x y) (t : Turn (cOf x) w w') : BoxSt w' y := by
  intro b hb
  refine ⟨(h b hb).1.turn t ?_ ?_, (h b hb).2⟩
  · rintro ⟨a, hax, e⟩
    exact (hx a hax).1.bc (h b hb).1 e.symm
  · rintro ⟨a, hax, e⟩
    exact (ha a b hax hb).2.1 e.symm
theorem RefSt.keepc (h : RefSt w base y) (hx : BoxSt w x) (t : Turn (cOf x) w w') : RefSt w' base y := by
  intro b hb
  refine ⟨(h b hb).1.turn t ?_ ?_, (h b hb).2⟩
  · rintro ⟨a, hax, e⟩
    obtain ⟨_, s, r, h2⟩ := (hx a hax).1
    obtain ⟨v, h1, _⟩ := (h b hb).1
    rw [e, h2] at h1
    cases h1
  · rintro k ⟨a, hax, e⟩ cur fz hk
    obtain ⟨_, s, r, h2⟩ := (hx a hax).1
    rw [e, h2] at hk
    cases hk
theorem RefSt.keep (h : RefSt w base y) (hx : RefSt w base x) (ha : Apart x y) (t : Turn (rOf x) w w') : RefSt w' base y := by
  intro b hb
  refine ⟨(h b hb).1.turn t ?_ ?_, (h b hb).2⟩
  · rintro ⟨a, hax, e⟩
    exact (ha a b hax hb).2.2 e.symm
  · rintro k ⟨a, hax, e⟩ cur fz hk
    obtain ⟨v, h1, _⟩ := (hx a hax).1
    rw [e, h1] at hk
    cases hk
theorem BoxSt.keepr (h : BoxSt w y) (hx : RefSt w base x) (t : Turn (rOf x) w w') : BoxSt w' y := by
  intro b hb
  refine ⟨(h b hb).1.turn t ?_ ?_, (h b hb).2⟩
  · rintro ⟨a, hax, e⟩
    obtain ⟨v, h1, _⟩ := (hx a hax).1
    have := (h b hb).1.1
    rw [e, h1] at this
    cases this
  · rintro ⟨a, hax, e⟩
    obtain ⟨v, h1, _⟩ := (hx a hax).1
    obtain ⟨_, s, r, h2⟩ := (h b hb).1
    rw [e, h1] at h2
    cases h2
end

/-- Either: the text, the number, the answer; the states behind it. -/
structure Ei where
  v : ByteArray
  n : Int
  e : Int
  x : St
  y : St
def ei : St → St → Ei
  | none, none => ⟨⟨#[]⟩, 0, 2, none, none⟩
  | some ⟨b, c, r, cap, s :: l⟩, y => ⟨s, 0, 0, some ⟨b, c, r, cap, l⟩, y⟩
  | none, some ⟨b, c, r, cap, s :: l⟩ => ⟨s, 1, 0, none, some ⟨b, c, r, cap, l⟩⟩
  | some ⟨b', c', r', cap', []⟩, some ⟨b, c, r, cap, s :: l⟩ => ⟨s, 1, 0, some ⟨b', c', r', cap', []⟩, some ⟨b, c, r, cap, l⟩⟩
  | none, some ⟨b, c, r, cap, []⟩ => ⟨⟨#[]⟩, -1, 4, none, some ⟨b, c, r, cap, []⟩⟩
  | some ⟨b, c, r, cap, []⟩, none => ⟨⟨#[]⟩, -1, 4, some ⟨b, c, r, cap, []⟩, none⟩
  | some ⟨b', c', r', cap', []⟩, some ⟨b, c, r, cap, []⟩ => ⟨⟨#[]⟩, -1, 4, some ⟨b', c', r', cap', []⟩, some ⟨b, c, r, cap, []⟩⟩

structure BoxDo2 (w : World) (x y x' y' : St) (w' : World) : Prop where
  one : BoxSt w' x'
  two : BoxSt w' y'
  turn : Turn (fun k => cOf x k ∨ cOf y k) w w'
structure RefDo2 (w : World) (base : Nat) (x y x' y' : St) (w' : World) : Prop where
  one : RefSt w' base x'
  two : RefSt w' base y'
  turn : Turn (fun k => rOf x k ∨ rOf y k) w w'

theorem fits_tail {b c r cap : Nat} {s : ByteArray} {l : List ByteArray} (h : Fits ⟨b, c, r, cap, s :: l⟩) : Fits ⟨b, c, r, cap, l⟩ := by
  have := h.2.2
  refine ⟨h.1, h.2.1, ?_⟩
  simp at this ⊢
  omega

def EiPost (w : World) (x y : St) (e : Ending) (w' : World) : Prop :=
  e = .returned (.tuple #[.string (ei x y).v, .int .i64 (ei x y).n, .int .i64 (ei x y).e]) ∧ BoxDo2 w x y (ei x y).x (ei x y).y w'
theorem either_st (x y : St) (w : World) (hx : BoxSt w x) (hy : BoxSt w y) (ha : Apart x y) : Calls Try.prog 19 #[.pointer (bp x), .pointer (bp y)] w (EiPost w x y) := by
  match x, y with
  | none, none => exact (either_none (.inl rfl) (.inl rfl)).mono fun e w' ⟨he, hw⟩ => ⟨he, by subst hw; exact ⟨.none _, .none _, Turn.refl _ _⟩⟩
  | some ⟨b, c, r, cap, s :: l⟩, y =>
    obtain ⟨hb, hf⟩ := hx _ rfl
    refine (either_first hb (bp y)).mono fun e w' ⟨he, hw⟩ => ⟨?_, ?_, ?_, ?_⟩
    · cases y <;> exact he
    · cases y <;> exact BoxSt.mk (y := ⟨b, c, r, cap, l⟩) hw.box (fits_tail hf)
    · have := hy.keep hx ha (turn_c hw.turn)
      cases y <;> exact this
    · exact (turn_c hw.turn).mono fun _ _ h => .inl h
  | none, some ⟨b, c, r, cap, s :: l⟩ =>
    obtain ⟨hb, hf⟩ := hy _ rfl
    refine (either_second_no (.inl rfl) hb).mono fun e w' ⟨he, hw⟩ => ⟨he, .none _, BoxSt.mk (y := ⟨b, c, r, cap, l⟩) hw.box (fits_tail hf), ?_⟩
    exact (turn_c (y := ⟨b, c, r, cap, s :: l⟩) hw.turn).mono fun _ _ h => .inr h
  | some ⟨b', c', r', cap', []⟩, some ⟨b, c, r, cap, s :: l⟩ =>
    obtain ⟨hb', hf'⟩ := hx _ rfl
    obtain ⟨hb, hf⟩ := hy _ rfl
    refine (either_second_empty hb' hb).mono fun e w' ⟨he, hw⟩ => ⟨he, hx.keep hy ha.symm (turn_c (y := ⟨b, c, r, cap, s :: l⟩) hw.turn), BoxSt.mk (y := ⟨b, c, r, cap, l⟩) hw.box (fits_tail hf), ?_⟩
    exact (turn_c (y := ⟨b, c, r, cap, s :: l⟩) hw.turn).mono fun _ _ h => .inr h
  | none, some ⟨b, c, r, cap, []⟩ =>
    obtain ⟨hb, hf⟩ := hy _ rfl
    exact (either_empty_no (.inl rfl) hb).mono fun e w' ⟨he, hw⟩ => ⟨he, by subst hw; exact ⟨hx, hy, Turn.refl _ _⟩⟩
  | some ⟨b, c, r, cap, []⟩, none =>
    obtain ⟨hb, hf⟩ := hx _ rfl
    exact (either_empty hb (.inl (.inl rfl))).mono fun e w' ⟨he, hw⟩ => ⟨he, by subst hw; exact ⟨hx, hy, Turn.refl _ _⟩⟩
  | some ⟨b', c', r', cap', []⟩, some ⟨b, c, r, cap, []⟩ =>
    obtain ⟨hb', hf'⟩ := hx _ rfl
    obtain ⟨hb, hf⟩ := hy _ rfl
    exact (either_empty hb' (.inr ⟨_, _, _, rfl, hb⟩)).mono fun e w' ⟨he, hw⟩ => ⟨he, by subst hw; exact ⟨hx, hy, Turn.refl _ _⟩⟩

def REiPost (w : World) (base : Nat) (x y : St) (e : Ending) (w' : World) : Prop :=
  e = .returned (.tuple #[.string (ei x y).v, .int .i64 (ei x y).n, .int .i64 (ei x y).e]) ∧ RefDo2 w base x y (ei x y).x (ei x y).y w'
set_option linter.unusedVariables false in
theorem rei_nn {w : World} {base : Nat} {xb xc xr xk yb yc yr yk : Nat} {s s' : ByteArray} {l l' : List ByteArray} (hx : RefSt w base (none)) (hy : RefSt w base (none)) (ha : Apart (none) (none)) (hbase : base ≤ w.heap.size) :
    Calls Try.prog 29 #[.pointer (rp (none)), .pointer (rp (none))] w (REiPost w base (none) (none)) := by
  go_enter Try.func29, Try.ntmps29
  go_wp2_with fail
  refine (rnone_st (none) base w hx).mono ?_
  rintro e w' ⟨rfl, rfl⟩
  go_wp2_with fail
  refine (rnone_st (none) base w hy).mono ?_
  rintro e w' ⟨rfl, rfl⟩
  go_wp2_with fail
  go_ret3
  exact ⟨rfl, .none _ _, .none _ _, Turn.refl _ _⟩
set_option linter.unusedVariables false in
theorem rei_ne {w : World} {base : Nat} {xb xc xr xk yb yc yr yk : Nat} {s s' : ByteArray} {l l' : List ByteArray} (hx : RefSt w base (none)) (hy : RefSt w base (some ⟨yb, yc, yr, yk, []⟩)) (ha : Apart (none) (some ⟨yb, yc, yr, yk, []⟩)) (hbase : base ≤ w.heap.size) :
    Calls Try.prog 29 #[.pointer (rp (none)), .pointer (rp (some ⟨yb, yc, yr, yk, []⟩))] w (REiPost w base (none) (some ⟨yb, yc, yr, yk, []⟩)) := by
  go_enter Try.func29, Try.ntmps29
  go_wp2_with fail
  refine (rnone_st (none) base w hx).mono ?_
  rintro e w' ⟨rfl, rfl⟩
  go_wp2_with fail
  refine (rnone_st (some ⟨yb, yc, yr, yk, []⟩) base w hy).mono ?_
  rintro e w' ⟨rfl, rfl⟩
  go_wp2_with fail
  refine (rlen_st (none) base w hx).mono ?_
  rintro e w' ⟨rfl, rfl⟩
  go_wp2_with fail
  refine (rlen_st (some ⟨yb, yc, yr, yk, []⟩) base w hy).mono ?_
  rintro e w' ⟨rfl, rfl⟩
  go_wp2_with fail
  go_ret3
  exact ⟨rfl, hx, hy, Turn.refl _ _⟩
set_option linter.unusedVariables false in
theorem rei_nc {w : World} {base : Nat} {xb xc xr xk yb yc yr yk : Nat} {s s' : ByteArray} {l l' : List ByteArray} (hx : RefSt w base (none)) (hy : RefSt w base (some ⟨yb, yc, yr, yk, s :: l⟩)) (ha : Apart (none) (some ⟨yb, yc, yr, yk, s :: l⟩)) (hbase : base ≤ w.heap.size) :
    Calls Try.prog 29 #[.pointer (rp (none)), .pointer (rp (some ⟨yb, yc, yr, yk, s :: l⟩))] w (REiPost w base (none) (some ⟨yb, yc, yr, yk, s :: l⟩)) := by
  go_enter Try.func29, Try.ntmps29
  go_wp2_with fail
  refine (rnone_st (none) base w hx).mono ?_
  rintro e w' ⟨rfl, rfl⟩
  go_wp2_with fail
  refine (rnone_st (some ⟨yb, yc, yr, yk, s :: l⟩) base w hy).mono ?_
  rintro e w' ⟨rfl, rfl⟩
  go_wp2_with fail
  refine (rlen_st (none) base w hx).mono ?_
  rintro e w' ⟨rfl, rfl⟩
  go_wp2_with fail
  refine (rlen_st (some ⟨yb, yc, yr, yk, s :: l⟩) base w hy).mono ?_
  rintro e w' ⟨rfl, rfl⟩
  go_wp2_with fail
  refine (rtake_st (some ⟨yb, yc, yr, yk, s :: l⟩) base w hy hbase).mono ?_
  rintro e w1 ⟨rfl, h1⟩
  go_wp2_with fail
  go_ret3
  exact ⟨rfl, hx.keep hy ha.symm h1.turn, h1.ref, h1.turn.mono fun _ _ h => .inr h⟩
set_option linter.unusedVariables false in
theorem rei_en {w : World} {base : Nat} {xb xc xr xk yb yc yr yk : Nat} {s s' : ByteArray} {l l' : List ByteArray} (hx : RefSt w base (some ⟨xb, xc, xr, xk, []⟩)) (hy : RefSt w base (none)) (ha : Apart (some ⟨xb, xc, xr, xk, []⟩) (none)) (hbase : base ≤ w.heap.size) :
    Calls Try.prog 29 #[.pointer (rp (some ⟨xb, xc, xr, xk, []⟩)), .pointer (rp (none))] w (REiPost w base (some ⟨xb, xc, xr, xk, []⟩) (none)) := by
  go_enter Try.func29, Try.ntmps29
  go_wp2_with fail
  refine (rnone_st (some ⟨xb, xc, xr, xk, []⟩) base w hx).mono ?_
  rintro e w' ⟨rfl, rfl⟩
  go_wp2_with fail
  refine (rlen_st (some ⟨xb, xc, xr, xk, []⟩) base w hx).mono ?_
  rintro e w' ⟨rfl, rfl⟩
  go_wp2_with fail
  refine (rlen_st (none) base w hy).mono ?_
  rintro e w' ⟨rfl, rfl⟩
  go_wp2_with fail
  go_ret3
  exact ⟨rfl, hx, hy, Turn.refl _ _⟩
set_option linter.unusedVariables false in
theorem rei_ee {w : World} {base : Nat} {xb xc xr xk yb yc yr yk : Nat} {s s' : ByteArray} {l l' : List ByteArray} (hx : RefSt w base (some ⟨xb, xc, xr, xk, []⟩)) (hy : RefSt w base (some ⟨yb, yc, yr, yk, []⟩)) (ha : Apart (some ⟨xb, xc, xr, xk, []⟩) (some ⟨yb, yc, yr, yk, []⟩)) (hbase : base ≤ w.heap.size) :
    Calls Try.prog 29 #[.pointer (rp (some ⟨xb, xc, xr, xk, []⟩)), .pointer (rp (some ⟨yb, yc, yr, yk, []⟩))] w (REiPost w base (some ⟨xb, xc, xr, xk, []⟩) (some ⟨yb, yc, yr, yk, []⟩)) := by
  go_enter Try.func29, Try.ntmps29
  go_wp2_with fail
  refine (rnone_st (some ⟨xb, xc, xr, xk, []⟩) base w hx).mono ?_
  rintro e w' ⟨rfl, rfl⟩
  go_wp2_with fail
  refine (rlen_st (some ⟨xb, xc, xr, xk, []⟩) base w hx).mono ?_
  rintro e w' ⟨rfl, rfl⟩
  go_wp2_with fail
  refine (rlen_st (some ⟨yb, yc, yr, yk, []⟩) base w hy).mono ?_
  rintro e w' ⟨rfl, rfl⟩
  go_wp2_with fail
  go_ret3
  exact ⟨rfl, hx, hy, Turn.refl _ _⟩
set_option linter.unusedVariables false in
theorem rei_ec {w : World} {base : Nat} {xb xc xr xk yb yc yr yk : Nat} {s s' : ByteArray} {l l' : List ByteArray} (hx : RefSt w base (some ⟨xb, xc, xr, xk, []⟩)) (hy : RefSt w base (some ⟨yb, yc, yr, yk, s :: l⟩)) (ha : Apart (some ⟨xb, xc, xr, xk, []⟩) (some ⟨yb, yc, yr, yk, s :: l⟩)) (hbase : base ≤ w.heap.size) :
    Calls Try.prog 29 #[.pointer (rp (some ⟨xb, xc, xr, xk, []⟩)), .pointer (rp (some ⟨yb, yc, yr, yk, s :: l⟩))] w (REiPost w base (some ⟨xb, xc, xr, xk, []⟩) (some ⟨yb, yc, yr, yk, s :: l⟩)) := by
  go_enter Try.func29, Try.ntmps29
  go_wp2_with fail
  refine (rnone_st (some ⟨xb, xc, xr, xk, []⟩) base w hx).mono ?_
  rintro e w' ⟨rfl, rfl⟩
  go_wp2_with fail
  refine (rlen_st (some ⟨xb, xc, xr, xk, []⟩) base w hx).mono ?_
  rintro e w' ⟨rfl, rfl⟩
  go_wp2_with fail
  refine (rlen_st (some ⟨yb, yc, yr, yk, s :: l⟩) base w hy).mono ?_
  rintro e w' ⟨rfl, rfl⟩
  go_wp2_with fail
  refine (rtake_st (some ⟨yb, yc, yr, yk, s :: l⟩) base w hy hbase).mono ?_
  rintro e w1 ⟨rfl, h1⟩
  go_wp2_with fail
  go_ret3
  exact ⟨rfl, hx.keep hy ha.symm h1.turn, h1.ref, h1.turn.mono fun _ _ h => .inr h⟩
set_option linter.unusedVariables false in
theorem rei_cn {w : World} {base : Nat} {xb xc xr xk yb yc yr yk : Nat} {s s' : ByteArray} {l l' : List ByteArray} (hx : RefSt w base (some ⟨xb, xc, xr, xk, s :: l⟩)) (hy : RefSt w base (none)) (ha : Apart (some ⟨xb, xc, xr, xk, s :: l⟩) (none)) (hbase : base ≤ w.heap.size) :
    Calls Try.prog 29 #[.pointer (rp (some ⟨xb, xc, xr, xk, s :: l⟩)), .pointer (rp (none))] w (REiPost w base (some ⟨xb, xc, xr, xk, s :: l⟩) (none)) := by
  go_enter Try.func29, Try.ntmps29
  go_wp2_with fail
  refine (rnone_st (some ⟨xb, xc, xr, xk, s :: l⟩) base w hx).mono ?_
  rintro e w' ⟨rfl, rfl⟩
  go_wp2_with fail
  refine (rlen_st (some ⟨xb, xc, xr, xk, s :: l⟩) base w hx).mono ?_
  rintro e w' ⟨rfl, rfl⟩
  go_wp2_with fail
  refine (rtake_st (some ⟨xb, xc, xr, xk, s :: l⟩) base w hx hbase).mono ?_
  rintro e w1 ⟨rfl, h1⟩
  go_wp2_with fail
  go_ret3
  exact ⟨rfl, h1.ref, hy.keep hx ha h1.turn, h1.turn.mono fun _ _ h => .inl h⟩
set_option linter.unusedVariables false in
theorem rei_ce {w : World} {base : Nat} {xb xc xr xk yb yc yr yk : Nat} {s s' : ByteArray} {l l' : List ByteArray} (hx : RefSt w base (some ⟨xb, xc, xr, xk, s :: l⟩)) (hy : RefSt w base (some ⟨yb, yc, yr, yk, []⟩)) (ha : Apart (some ⟨xb, xc, xr, xk, s :: l⟩) (some ⟨yb, yc, yr, yk, []⟩)) (hbase : base ≤ w.heap.size) :
    Calls Try.prog 29 #[.pointer (rp (some ⟨xb, xc, xr, xk, s :: l⟩)), .pointer (rp (some ⟨yb, yc, yr, yk, []⟩))] w (REiPost w base (some ⟨xb, xc, xr, xk, s :: l⟩) (some ⟨yb, yc, yr, yk, []⟩)) := by
  go_enter Try.func29, Try.ntmps29
  go_wp2_with fail
  refine (rnone_st (some ⟨xb, xc, xr, xk, s :: l⟩) base w hx).mono ?_
  rintro e w' ⟨rfl, rfl⟩
  go_wp2_with fail
  refine (rlen_st (some ⟨xb, xc, xr, xk, s :: l⟩) base w hx).mono ?_
  rintro e w' ⟨rfl, rfl⟩
  go_wp2_with fail
  refine (rtake_st (some ⟨xb, xc, xr, xk, s :: l⟩) base w hx hbase).mono ?_
  rintro e w1 ⟨rfl, h1⟩
  go_wp2_with fail
  go_ret3
  exact ⟨rfl, h1.ref, hy.keep hx ha h1.turn, h1.turn.mono fun _ _ h => .inl h⟩
set_option linter.unusedVariables false in
theorem rei_cc {w : World} {base : Nat} {xb xc xr xk yb yc yr yk : Nat} {s s' : ByteArray} {l l' : List ByteArray} (hx : RefSt w base (some ⟨xb, xc, xr, xk, s :: l⟩)) (hy : RefSt w base (some ⟨yb, yc, yr, yk, s' :: l'⟩)) (ha : Apart (some ⟨xb, xc, xr, xk, s :: l⟩) (some ⟨yb, yc, yr, yk, s' :: l'⟩)) (hbase : base ≤ w.heap.size) :
    Calls Try.prog 29 #[.pointer (rp (some ⟨xb, xc, xr, xk, s :: l⟩)), .pointer (rp (some ⟨yb, yc, yr, yk, s' :: l'⟩))] w (REiPost w base (some ⟨xb, xc, xr, xk, s :: l⟩) (some ⟨yb, yc, yr, yk, s' :: l'⟩)) := by
  go_enter Try.func29, Try.ntmps29
  go_wp2_with fail
  refine (rnone_st (some ⟨xb, xc, xr, xk, s :: l⟩) base w hx).mono ?_
  rintro e w' ⟨rfl, rfl⟩
  go_wp2_with fail
  refine (rlen_st (some ⟨xb, xc, xr, xk, s :: l⟩) base w hx).mono ?_
  rintro e w' ⟨rfl, rfl⟩
  go_wp2_with fail
  refine (rtake_st (some ⟨xb, xc, xr, xk, s :: l⟩) base w hx hbase).mono ?_
  rintro e w1 ⟨rfl, h1⟩
  go_wp2_with fail
  go_ret3
  exact ⟨rfl, h1.ref, hy.keep hx ha h1.turn, h1.turn.mono fun _ _ h => .inl h⟩
theorem reither_st (x y : St) (base : Nat) (w : World) (hx : RefSt w base x) (hy : RefSt w base y) (ha : Apart x y) (hbase : base ≤ w.heap.size) : Calls Try.prog 29 #[.pointer (rp x), .pointer (rp y)] w (REiPost w base x y) := by
  match x, y with
  | none, none => exact rei_nn (xb := 0) (xc := 0) (xr := 0) (xk := 0) (yb := 0) (yc := 0) (yr := 0) (yk := 0) (s := ⟨#[]⟩) (l := []) (s' := ⟨#[]⟩) (l' := []) hx hy ha hbase
  | none, some ⟨yb, yc, yr, yk, []⟩ => exact rei_ne (xb := 0) (xc := 0) (xr := 0) (xk := 0) (s := ⟨#[]⟩) (l := []) (s' := ⟨#[]⟩) (l' := []) hx hy ha hbase
  | none, some ⟨yb, yc, yr, yk, s :: l⟩ => exact rei_nc (xb := 0) (xc := 0) (xr := 0) (xk := 0) (s' := ⟨#[]⟩) (l' := []) hx hy ha hbase
  | some ⟨xb, xc, xr, xk, []⟩, none => exact rei_en (yb := 0) (yc := 0) (yr := 0) (yk := 0) (s := ⟨#[]⟩) (l := []) (s' := ⟨#[]⟩) (l' := []) hx hy ha hbase
  | some ⟨xb, xc, xr, xk, []⟩, some ⟨yb, yc, yr, yk, []⟩ => exact rei_ee  (s := ⟨#[]⟩) (l := []) (s' := ⟨#[]⟩) (l' := []) hx hy ha hbase
  | some ⟨xb, xc, xr, xk, []⟩, some ⟨yb, yc, yr, yk, s :: l⟩ => exact rei_ec  (s' := ⟨#[]⟩) (l' := []) hx hy ha hbase
  | some ⟨xb, xc, xr, xk, s :: l⟩, none => exact rei_cn (yb := 0) (yc := 0) (yr := 0) (yk := 0) (s' := ⟨#[]⟩) (l' := []) hx hy ha hbase
  | some ⟨xb, xc, xr, xk, s :: l⟩, some ⟨yb, yc, yr, yk, []⟩ => exact rei_ce  (s' := ⟨#[]⟩) (l' := []) hx hy ha hbase
  | some ⟨xb, xc, xr, xk, s :: l⟩, some ⟨yb, yc, yr, yk, s' :: l'⟩ => exact rei_cc  hx hy ha hbase

/-- Move of both -/
def mvN (x y : St) (most : Int) : Nat := match x, y with | some a, some b => mv most a.l.length (b.cap - b.l.length) | _, _ => 0
def mvX (x y : St) (most : Int) : St := x.map fun a => { a with l := a.l.drop (mvN x y most) }
def mvY (x y : St) (most : Int) : St := y.map fun b => { b with l := b.l ++ (allL x).take (mvN x y most) }
def MvSt (w : World) (x y : St) (most : Int) (e : Ending) (w' : World) : Prop :=
  e = .returned (.int .i64 (mvN x y most)) ∧ BoxDo2 w x y (mvX x y most) (mvY x y most) w'
theorem mv_le (most : Int) (a r : Nat) : mv most a r ≤ a ∧ mv most a r ≤ r := by unfold mv; omega
theorem fits_drop {a : Bx} (h : Fits a) (n : Nat) : Fits { a with l := a.l.drop n } := by
  have := h.2.2
  refine ⟨h.1, h.2.1, ?_⟩
  simp
  omega
theorem fits_more {b : Bx} (h : Fits b) (n : Nat) (hn : n ≤ b.cap - b.l.length) (l : List ByteArray) : Fits { b with l := b.l ++ l.take n } := by
  have := h.2.2
  refine ⟨h.1, h.2.1, ?_⟩
  simp
  omega
theorem move_st (x y : St) (most : Int) (w : World) (hx : BoxSt w x) (hy : BoxSt w y) (ha : Apart x y) : Calls Try.prog 16 #[.pointer (bp x), .pointer (bp y), .int .i64 most] w (MvSt w x y most) := by
  match x, y with
  | none, none => exact (move_from_no (.inl rfl) (bp none) most).mono fun e w' ⟨he, hw⟩ => ⟨he, by subst hw; exact ⟨.none _, .none _, Turn.refl _ _⟩⟩
  | none, some b =>
    refine (move_from_no (.inl rfl) (bp (some b)) most).mono fun e w' ⟨he, hw⟩ => ⟨he, ?_⟩
    subst hw
    obtain ⟨hb, hf⟩ := hy b rfl
    exact ⟨.none _, BoxSt.mk (y := { b with l := b.l ++ ([] : List ByteArray).take 0 }) (by simpa using hb) (fits_more hf 0 (by omega) []), Turn.refl _ _⟩
  | some a, none =>
    obtain ⟨hb, hf⟩ := hx a rfl
    refine (move_to_no hb (.inl rfl) most).mono fun e w' ⟨he, hw⟩ => ⟨he, ?_⟩
    subst hw
    exact ⟨BoxSt.mk (y := { a with l := a.l.drop 0 }) (by simpa using hb) (fits_drop hf 0), .none _, Turn.refl _ _⟩
  | some a, some b =>
    obtain ⟨h1, f1⟩ := hx a rfl
    obtain ⟨h2, f2⟩ := hy b rfl
    obtain ⟨n1, n2, _⟩ := ha a b rfl rfl
    have hle := mv_le most a.l.length (b.cap - b.l.length)
    refine (move_ok a.b a.c a.cap b.b b.c b.cap a.l b.l most w h1 h2 n1 n2 (by have := f1.2.1; have := f1.2.2; omega) f2.2.1 f2.2.2).mono ?_
    rintro e w' ⟨he, hm⟩
    refine ⟨he, BoxSt.mk (y := { a with l := _ }) hm.one (fits_drop f1 _), BoxSt.mk (y := { b with l := _ }) hm.two (fits_more f2 _ hle.2 _), ?_⟩
    exact hm.turn.mono fun k _ h => h.elim (fun e => .inl ⟨a, rfl, e⟩) (fun e => .inr ⟨b, rfl, e⟩)

def RMvSt (w : World) (base : Nat) (x y : St) (most : Int) (e : Ending) (w' : World) : Prop :=
  e = .returned (.int .i64 (mvN x y most)) ∧ RefDo2 w base x y (mvX x y most) (mvY x y most) w'

def RMvRel (w : World) (base : Nat) (a b : Bx) (most : Int) (g : Nat) (v : Value) (wr : World) : Prop :=
  ∃ k : Nat, v = .int .i64 k ∧ k + g = a.l.length ∧ k ≤ mv most a.l.length (b.cap - b.l.length) ∧ RefDo2 w base (some a) (some b) (some { a with l := a.l.drop k }) (some { b with l := b.l ++ a.l.take k }) wr
theorem rmv_of {w : World} {base : Nat} {a b : Bx} {most : Int} {k : Nat} {w' : World} (h : RefDo2 w base (some a) (some b) (some { a with l := a.l.drop k }) (some { b with l := b.l ++ a.l.take k }) w')
    (e : k = mv most a.l.length (b.cap - b.l.length)) : RMvSt w base (some a) (some b) most (.returned (.int .i64 k)) w' := by
  subst e; exact ⟨rfl, h⟩

theorem rlen_n (x : St) (base : Nat) (w : World) (L : Int) (h : RefSt w base x) (hL : lenV x = L) : Calls Try.prog 31 #[.pointer (rp x)] w fun e w' => e = .returned (.int .i64 L) ∧ w = w' := by
  subst hL; exact rlen_st x base w h
theorem rroom_n (x : St) (base : Nat) (w : World) (L : Int) (h : RefSt w base x) (hL : roomV x = L) : Calls Try.prog 32 #[.pointer (rp x)] w fun e w' => e = .returned (.int .i64 L) ∧ ∃ n, w.drewN n = w' := by
  subst hL; exact rroom_st x base w h
theorem rtake_n (x x' : St) (base : Nat) (w : World) (s : ByteArray) (h : RefSt w base x) (hbase : base ≤ w.heap.size) (hv : takeV x = s) (hc : takeC x = 0) (hs : takeS x = x') :
    Calls Try.prog 27 #[.pointer (rp x)] w fun e w' => e = .returned (.tuple #[.string s, .int .i64 0]) ∧ RefDo w base x x' w' := by
  subst hv hs; have := rtake_st x base w h hbase; rwa [hc] at this
theorem rput_n (x x' : St) (base : Nat) (w : World) (s : ByteArray) (h : RefSt w base x) (hbase : base ≤ w.heap.size) (hc : putC x = 0) (hs : putS x s = x') :
    Calls Try.prog 26 #[.pointer (rp x), .string s] w fun e w' => e = .returned (.int .i64 0) ∧ RefDo w base x x' w' := by
  subst hs; have := rput_st x s base w h hbase; rwa [hc] at this
theorem turn_r2 {w w1 w2 : World} {a b : Bx} {a' : Bx} (t : Turn (fun k => rOf (some a) k ∨ rOf (some b) k) w w1) (t' : Turn (rOf (some a')) w1 w2) (h : a'.r = a.r ∨ a'.r = b.r) : Turn (fun k => rOf (some a) k ∨ rOf (some b) k) w w2 :=
  t.step t' fun k _ hk => by
    obtain ⟨y, hy, e⟩ := hk
    injection hy with hy
    subst hy
    rcases h with h | h
    · exact .inl ⟨a, rfl, e.trans h⟩
    · exact .inr ⟨b, rfl, e.trans h⟩

theorem ptr_info63 : (Try.prog.info? 63).map (fun i => i.size) = some 2 := by kernel_rfl

set_option maxRecDepth 100000 in
set_option maxHeartbeats 2000000 in
theorem rmove_ok (a b : Bx) (most : Int) (base : Nat) (w : World) (hx : RefSt w base (some a)) (hy : RefSt w base (some b)) (ha : Apart (some a) (some b)) (hbase : base ≤ w.heap.size) :
    Calls Try.prog 30 #[.pointer (rp (some a)), .pointer (rp (some b)), .int .i64 most] w (RMvSt w base (some a) (some b) most) := by
  obtain ⟨i63, hi63, hs63⟩ := Option.map_eq_some_iff.1 ptr_info63
  obtain ⟨h1, f1⟩ := hx a rfl
  obtain ⟨h2, f2⟩ := hy b rfl
  obtain ⟨v1, k1, _⟩ := h1
  obtain ⟨v2, k2, _⟩ := h2
  have hne := run_eql_ptr_other (P := Try.prog) w Try.underlying43 hi63 (by omega) (a := ⟨a.r, 0, none⟩) (b := ⟨b.r, 0, none⟩) (fun e => (ha a b rfl rfl).2.2 (by injection e)) k1 k2
  have hX := rnone_st (some a) base w hx
  have hY := rnone_st (some b) base w hy
  have HX := hide hX
  have HY := hide hY
  have HA := hide ha
  have Hx := hide hx
  have Hy := hide hy
  obtain ⟨_, f12, f13⟩ := f1
  obtain ⟨_, f22, f23⟩ := f2
  clear hX hY k1 k2 hi63 hs63 ha hx hy
  simp only [rp, Option.map_some] at *
  go_enter Try.func30, Try.ntmps30
  go_wp2_with fail
  refine HX.out.mono ?_
  rintro e w' ⟨rfl, rfl⟩
  go_wp2_with fail
  refine HY.out.mono ?_
  rintro e w' ⟨rfl, rfl⟩
  go_wp2_with fail
  clear hne
  go_loopg [7] a.l.length (fun g v wr => RMvRel w base a b most g v wr)
  case atStart => exact ⟨0, rfl, by omega, by omega, by simpa using Hx.out, by simpa using Hy.out, Turn.refl _ _⟩
  case round =>
    obtain ⟨k, rfl, hk, hkm, hmv⟩ := hrel
    have HK := hide hk
    have hkl : k ≤ a.l.length := by omega
    have hsw := hmv.turn.size
    clear hk
    unfold mv at hkm
    have HLx := hide (rlen_st _ base wr hmv.one)
    have hl1 : ((a.l.drop k).length : Int) = (a.l.length : Int) - k := by simp; omega
    have hap : Apart (some { a with l := a.l.drop k }) (some { b with l := b.l ++ a.l.take k }) := fun a' b' e1 e2 => by
      injection e1 with e1; injection e2 with e2; subst e1; subst e2; exact HA.out a b rfl rfl
    have HAP := hide hap
    clear hap
    by_cases a1 : (k : Int) < most
    · by_cases a3 : k < a.l.length
      · have hl0 : (some { a with l := a.l.drop k } : St) = some { a with l := a.l[k] :: a.l.drop (k + 1) } := by rw [drop_cons a.l k a3]
        by_cases a2 : b.l.length + k < b.cap
        · have hroom : roomV (some { b with l := b.l ++ a.l.take k }) = (b.cap : Int) - (b.l.length + k : Nat) := by simp [roomV]; omega
          go_wp2_with fail
          refine (rlen_n (some { a with l := a.l.drop k }) base wr ((a.l.length : Int) - k) hmv.one (by simp [lenV]; omega)).mono ?_
          rintro e w' ⟨rfl, rfl⟩
          go_wp2_with fail
          refine (rroom_n (some { b with l := b.l ++ a.l.take k }) base wr ((b.cap : Int) - (b.l.length + k : Nat)) hmv.two hroom).mono ?_
          rintro e w2 ⟨rfl, n2, rfl⟩
          clear hroom
          go_wp2_with fail
          refine (rtake_n (some { a with l := a.l.drop k }) (some { a with l := a.l.drop (k + 1) }) base _ a.l[k] (by exact hmv.one) (by show base ≤ wr.heap.size; omega) (by rw [hl0]; rfl) (by rw [hl0]; rfl) (by rw [hl0]; rfl)).mono ?_
          rintro e w3 ⟨rfl, h3⟩
          have h23 : RefSt w3 base (some { b with l := b.l ++ a.l.take k }) := (show RefSt (wr.drewN n2) base _ from hmv.two).keep (show RefSt (wr.drewN n2) base _ from hmv.one) HAP.out h3.turn
          have hs3 : base ≤ w3.heap.size := by have := h3.turn.size; simp at this; omega
          go_wp2_with fail
          refine (rput_n (some { b with l := b.l ++ a.l.take k }) (some { b with l := b.l ++ a.l.take (k + 1) }) base _ a.l[k] h23 hs3 (by unfold putC; simp only [List.length_append, List.length_take]; rw [if_pos (by omega)]) (by unfold putS; simp only [List.length_append, List.length_take]; rw [if_pos (by omega), take_snoc a.l k a3, ← List.append_assoc])).mono ?_
          rintro e w4 ⟨rfl, h4⟩
          have h14 : RefSt w4 base (some { a with l := a.l.drop (k + 1) }) := h3.ref.keep h23 (fun a' b' e1 e2 => by injection e1 with e1; injection e2 with e2; subst e1; subst e2; have := HA.out a b rfl rfl; exact ⟨fun e => this.1 e.symm, fun e => this.2.1 e.symm, fun e => this.2.2 e.symm⟩) h4.turn
          go_wp2_with fail
          go_roundg (gk - 1)
          case measure => have := HK.out; omega
          case rel =>
            have hK := HK.out
            exact ⟨k + 1, by go_num, by omega, by unfold mv; omega, h14, h4.ref, turn_r2 (turn_r2 (hmv.turn.drewN n2) h3.turn (.inl rfl)) h4.turn (.inr rfl)⟩
        · have hroom : roomV (some { b with l := b.l ++ a.l.take k }) = (b.cap : Int) - (b.l.length + k : Nat) := by simp [roomV]; omega
          go_wp2_with fail
          refine (rlen_n (some { a with l := a.l.drop k }) base wr ((a.l.length : Int) - k) hmv.one (by simp [lenV]; omega)).mono ?_
          rintro e w' ⟨rfl, rfl⟩
          go_wp2_with fail
          refine (rroom_n (some { b with l := b.l ++ a.l.take k }) base wr ((b.cap : Int) - (b.l.length + k : Nat)) hmv.two hroom).mono ?_
          rintro e w2 ⟨rfl, n2, rfl⟩
          clear hroom
          go_wp2_with fail
          go_ret
          exact rmv_of ⟨hmv.one, hmv.two, hmv.turn.drewN n2⟩ (by unfold mv; omega)
      · go_wp2_with fail
        refine (rlen_n (some { a with l := a.l.drop k }) base wr 0 hmv.one (by simp [lenV]; omega)).mono ?_
        rintro e w' ⟨rfl, rfl⟩
        go_wp2_with fail
        go_ret
        exact rmv_of hmv (by unfold mv; omega)
    · go_wp2_with fail
      go_ret
      exact rmv_of hmv (by unfold mv; omega)
theorem rmove_st (x y : St) (most : Int) (base : Nat) (w : World) (hx : RefSt w base x) (hy : RefSt w base y) (ha : Apart x y) (hbase : base ≤ w.heap.size) :
    Calls Try.prog 30 #[.pointer (rp x), .pointer (rp y), .int .i64 most] w (RMvSt w base x y most) := by
  have HX := hide (rnone_st x base w hx)
  have HY := hide (rnone_st y base w hy)
  match x, y with
  | some a, some b => exact rmove_ok a b most base w hx hy ha hbase
  | none, y =>
    go_enter Try.func30, Try.ntmps30
    go_wp2_with fail
    refine HX.out.mono ?_
    rintro e w' ⟨rfl, rfl⟩
    go_wp2_with fail
    go_ret
    refine ⟨rfl, .none _ _, ?_, Turn.refl _ _⟩
    cases y with
    | none => exact .none _ _
    | some b => simpa [mvY, mvN, allL] using hy
  | some a, none =>
    go_enter Try.func30, Try.ntmps30
    go_wp2_with fail
    refine HX.out.mono ?_
    rintro e w' ⟨rfl, rfl⟩
    go_wp2_with fail
    refine HY.out.mono ?_
    rintro e w' ⟨rfl, rfl⟩
    go_wp2_with fail
    go_ret
    exact ⟨rfl, by simpa [mvX, mvN] using hx, .none _ _, Turn.refl _ _⟩
end Go.Proofs.Ytjgdmdjndkkckaa
