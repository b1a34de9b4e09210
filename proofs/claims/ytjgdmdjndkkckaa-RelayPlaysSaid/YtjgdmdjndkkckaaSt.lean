/-
  Both mailboxes over one state: a mailbox and the document's, of which each function tells the same.
-/
import Derived.Test.YtjgdmdjndkkckaaRef
namespace Go.Proofs.Ytjgdmdjndkkckaa
open Go.Conc Go.RowKit

/-- A mailbox (block b, channel c) and the document's (block r), of one size, with the same texts. -/
structure Bx where
  b : Nat
  c : Nat
  r : Nat
  cap : Nat
  l : List ByteArray
abbrev St := Option Bx
def bp (x : St) : Option Addr := x.map fun x => ⟨x.b, 0, none⟩
def rp (x : St) : Option Addr := x.map fun x => ⟨x.r, 0, none⟩
def Fits (x : Bx) : Prop := 1 ≤ x.cap ∧ x.cap ≤ 1024 ∧ x.l.length ≤ x.cap
def BoxSt (w : World) (x : St) : Prop := ∀ y, x = some y → IsBox w y.b y.c y.cap y.l ∧ Fits y
def RefSt (w : World) (base : Nat) (x : St) : Prop := ∀ y, x = some y → IsRef w base y.r y.cap y.l ∧ Fits y
def cOf (x : St) (k : Nat) : Prop := ∃ y, x = some y ∧ k = y.c
def rOf (x : St) (k : Nat) : Prop := ∃ y, x = some y ∧ k = y.r
def set (x : St) (l : List ByteArray) : St := x.map fun x => { x with l := l }

structure BoxDo (w : World) (x x' : St) (w' : World) : Prop where
  box : BoxSt w' x'
  turn : Turn (cOf x) w w'
structure RefDo (w : World) (base : Nat) (x x' : St) (w' : World) : Prop where
  ref : RefSt w' base x'
  turn : Turn (rOf x) w w'

theorem BoxSt.mk {w : World} {y : Bx} (h : IsBox w y.b y.c y.cap y.l) (hf : Fits y) : BoxSt w (some y) := by
  rintro z e; injection e with e; subst e; exact ⟨h, hf⟩
theorem RefSt.mk {w : World} {base : Nat} {y : Bx} (h : IsRef w base y.r y.cap y.l) (hf : Fits y) : RefSt w base (some y) := by
  rintro z e; injection e with e; subst e; exact ⟨h, hf⟩
theorem BoxSt.none (w : World) : BoxSt w none := by rintro z e; cases e
theorem RefSt.none (w : World) (base : Nat) : RefSt w base none := by rintro z e; cases e
theorem turn_c {w w' : World} {y : Bx} (t : Turn (· = y.c) w w') : Turn (cOf (some y)) w w' := t.mono fun _ _ e => ⟨y, rfl, e⟩
theorem turn_r {w w' : World} {y : Bx} (t : Turn (· = y.r) w w') : Turn (rOf (some y)) w w' := t.mono fun _ _ e => ⟨y, rfl, e⟩

/-- Put. -/
def putC (x : St) : Int := match x with | none => 2 | some y => if y.l.length < y.cap then 0 else 6
def putS (x : St) (s : ByteArray) : St := match x with | none => none | some y => if y.l.length < y.cap then some { y with l := y.l ++ [s] } else some y
theorem put_st (x : St) (s : ByteArray) (w : World) (h : BoxSt w x) :
    Calls Try.prog 11 #[.pointer (bp x), .string s] w fun e w' => e = .returned (.int .i64 (putC x)) ∧ BoxDo w x (putS x s) w' := by
  cases x with
  | none => exact (put_nil s w).mono fun e w' ⟨he, hw⟩ => ⟨he, by subst hw; exact ⟨.none _, Turn.refl _ _⟩⟩
  | some y =>
    obtain ⟨hb, hf⟩ := h y rfl
    unfold putC putS
    by_cases hl : y.l.length < y.cap
    · simp only [if_pos hl]
      refine (put_ok y.b y.c y.cap y.l s w hb hl).mono fun e w' ⟨he, hw⟩ => ⟨he, .mk hw.box ⟨hf.1, hf.2.1, ?_⟩, turn_c hw.turn⟩
      simp; omega
    · simp only [if_neg hl]
      exact (put_no y.b y.c y.cap y.l s w hb (by omega)).mono fun e w' ⟨he, hw⟩ => ⟨he, by subst hw; exact ⟨.mk hb hf, Turn.refl _ _⟩⟩
theorem rput_st (x : St) (s : ByteArray) (base : Nat) (w : World) (h : RefSt w base x) (hbase : base ≤ w.heap.size) :
    Calls Try.prog 26 #[.pointer (rp x), .string s] w fun e w' => e = .returned (.int .i64 (putC x)) ∧ RefDo w base x (putS x s) w' := by
  cases x with
  | none => exact (rput_nil s w).mono fun e w' ⟨he, hw⟩ => ⟨he, by subst hw; exact ⟨.none _ _, Turn.refl _ _⟩⟩
  | some y =>
    obtain ⟨hb, hf⟩ := h y rfl
    unfold putC putS
    by_cases hl : y.l.length < y.cap
    · simp only [if_pos hl]
      refine (rput_ok base y.r y.cap y.l s w hb hf.1 hf.2.1 hl hbase).mono fun e w' ⟨he, hw⟩ => ⟨he, .mk hw.ref ⟨hf.1, hf.2.1, ?_⟩, turn_r hw.turn⟩
      simp; omega
    · simp only [if_neg hl]
      refine (rput_full base y.r y.cap y.l s w hb hf.1 hf.2.1 (by have := hf.2.2; omega)).mono fun e w' ⟨he, n, hw⟩ => ⟨he, ?_⟩
      subst hw
      exact ⟨.mk hb hf, (Turn.refl _ _).drewN n⟩

/-- Take. -/
def takeV (x : St) : ByteArray := match x with | some ⟨_, _, _, _, s :: _⟩ => s | _ => ⟨#[]⟩
def takeC (x : St) : Int := match x with | none => 2 | some ⟨_, _, _, _, []⟩ => 4 | _ => 0
def takeS (x : St) : St := x.map fun y => { y with l := y.l.tail }
theorem take_st (x : St) (w : World) (h : BoxSt w x) :
    Calls Try.prog 12 #[.pointer (bp x)] w fun e w' => e = .returned (.tuple #[.string (takeV x), .int .i64 (takeC x)]) ∧ BoxDo w x (takeS x) w' := by
  match x with
  | none => exact (take_nil w).mono fun e w' ⟨he, hw⟩ => ⟨he, by subst hw; exact ⟨.none _, Turn.refl _ _⟩⟩
  | some ⟨b, c, r, cap, []⟩ =>
    obtain ⟨hb, hf⟩ := h _ rfl
    exact (take_no b c cap w hb).mono fun e w' ⟨he, hw⟩ => ⟨he, by subst hw; exact ⟨.mk hb hf, Turn.refl _ _⟩⟩
  | some ⟨b, c, r, cap, s :: l⟩ =>
    obtain ⟨hb, hf⟩ := h _ rfl
    refine (take_ok b c cap l s w hb).mono fun e w' ⟨he, hw⟩ => ⟨he, BoxSt.mk (y := ⟨b, c, r, cap, l⟩) hw.box ⟨hf.1, hf.2.1, ?_⟩, turn_c hw.turn⟩
    have := hf.2.2
    simp at this ⊢; omega
theorem rtake_st (x : St) (base : Nat) (w : World) (h : RefSt w base x) (hbase : base ≤ w.heap.size) :
    Calls Try.prog 27 #[.pointer (rp x)] w fun e w' => e = .returned (.tuple #[.string (takeV x), .int .i64 (takeC x)]) ∧ RefDo w base x (takeS x) w' := by
  match x with
  | none => exact (rtake_nil w).mono fun e w' ⟨he, hw⟩ => ⟨he, by subst hw; exact ⟨.none _ _, Turn.refl _ _⟩⟩
  | some ⟨b, c, r, cap, []⟩ =>
    obtain ⟨hb, hf⟩ := h _ rfl
    exact (rtake_none base r cap w hb hf.1).mono fun e w' ⟨he, hw⟩ => ⟨he, by subst hw; exact ⟨.mk hb hf, Turn.refl _ _⟩⟩
  | some ⟨b, c, r, cap, s :: l⟩ =>
    obtain ⟨hb, hf⟩ := h _ rfl
    have hl := hf.2.2
    simp only [List.length_cons] at hl
    exact (rtake_ok base r cap l s w hb hf.1 hf.2.1 (by omega) hbase).mono fun e w' ⟨he, hw⟩ => ⟨he, RefSt.mk (y := ⟨b, c, r, cap, l⟩) hw.ref ⟨hf.1, hf.2.1, by simp only; omega⟩, turn_r hw.turn⟩

/-- Len, Room. -/
def lenV (x : St) : Int := match x with | none => 0 | some y => y.l.length
def roomV (x : St) : Int := match x with | none => 0 | some y => y.cap - y.l.length
theorem len_st (x : St) (w : World) (h : BoxSt w x) : Calls Try.prog 13 #[.pointer (bp x)] w fun e w' => e = .returned (.int .i64 (lenV x)) ∧ w = w' := by
  cases x with
  | none => exact len_nil w
  | some y => obtain ⟨hb, hf⟩ := h _ rfl; exact len_ok y.b y.c y.cap y.l w hb
theorem rlen_st (x : St) (base : Nat) (w : World) (h : RefSt w base x) : Calls Try.prog 31 #[.pointer (rp x)] w fun e w' => e = .returned (.int .i64 (lenV x)) ∧ w = w' := by
  cases x with
  | none => exact rlen_nil w
  | some y => obtain ⟨hb, hf⟩ := h _ rfl; exact rlen_ok base y.r y.cap y.l w hb hf.1
theorem room_st (x : St) (w : World) (h : BoxSt w x) : Calls Try.prog 10 #[.pointer (bp x)] w fun e w' => e = .returned (.int .i64 (roomV x)) ∧ ∃ n, w.drewN n = w' := by
  cases x with
  | none => exact (room_nil w).mono fun e w' ⟨he, hw⟩ => ⟨he, 0, hw⟩
  | some y => obtain ⟨hb, hf⟩ := h _ rfl; exact room_ok y.b y.c y.cap y.l w hb hf.2.1 hf.2.2
theorem rroom_st (x : St) (base : Nat) (w : World) (h : RefSt w base x) : Calls Try.prog 32 #[.pointer (rp x)] w fun e w' => e = .returned (.int .i64 (roomV x)) ∧ ∃ n, w.drewN n = w' := by
  cases x with
  | none => exact (rroom_nil w).mono fun e w' ⟨he, hw⟩ => ⟨he, 0, hw⟩
  | some y => obtain ⟨hb, hf⟩ := h _ rfl; exact rroom_ok base y.r y.cap y.l w hb hf.1 hf.2.1 hf.2.2
def noneV (x : St) : Bool := x.isNone
theorem rnone_st (x : St) (base : Nat) (w : World) (h : RefSt w base x) : Calls Try.prog 34 #[.pointer (rp x)] w fun e w' => e = .returned (.bool (noneV x)) ∧ w = w' := by
  cases x with
  | none => exact rnone_nil w
  | some y => obtain ⟨hb, hf⟩ := h _ rfl; exact rnone_ok base y.r y.cap y.l w hb hf.1

/-- All. -/
def allL (x : St) : List ByteArray := match x with | none => [] | some y => y.l
def allS (x : St) : St := x.map fun y => { y with l := [] }
def AllSt (w : World) (x : St) (e : Ending) (w' : World) : Prop := ∃ v, e = .returned v ∧ BoxDo w x (allS x) w' ∧ w'.ownsRow w.heap.size 9 1 v (allL x).length (strs (allL x))
def RAllSt (w : World) (base : Nat) (x : St) (e : Ending) (w' : World) : Prop := ∃ v, e = .returned v ∧ RefDo w base x (allS x) w' ∧ w'.ownsRow base 9 1 v (allL x).length (strs (allL x))
theorem all_st (x : St) (w : World) (h : BoxSt w x) : Calls Try.prog 14 #[.pointer (bp x)] w (AllSt w x) := by
  cases x with
  | none => exact (all_nobox (.inl rfl)).mono fun e w' ⟨he, hw⟩ => ⟨_, he, by subst hw; exact ⟨.none _, Turn.refl _ _⟩, World.ownsRow_nil _ _ _ _⟩
  | some y =>
    obtain ⟨hb, hf⟩ := h _ rfl
    refine (all_ok y.b y.c y.cap y.l w hb (by have := hf.2.1; have := hf.2.2; omega)).mono ?_
    rintro e w' ⟨v, he, hw⟩
    exact ⟨v, he, ⟨BoxSt.mk (y := { y with l := [] }) hw.box ⟨hf.1, hf.2.1, by simp⟩, turn_c hw.turn⟩, hw.own⟩
theorem rall_st (x : St) (base : Nat) (w : World) (h : RefSt w base x) : Calls Try.prog 28 #[.pointer (rp x)] w (RAllSt w base x) := by
  cases x with
  | none => exact (rall_nil w).mono fun e w' ⟨he, hw⟩ => ⟨_, he, by subst hw; exact ⟨.none _ _, Turn.refl _ _⟩, World.ownsRow_nil _ _ _ _⟩
  | some y =>
    obtain ⟨hb, hf⟩ := h _ rfl
    refine (rall_ok base y.r y.cap y.l w hb hf.1).mono ?_
    rintro e w' ⟨v, he, hw, hown⟩
    exact ⟨v, he, ⟨RefSt.mk (y := { y with l := [] }) hw.ref ⟨hf.1, hf.2.1, by simp⟩, turn_r hw.turn⟩, hown⟩
end Go.Proofs.Ytjgdmdjndkkckaa
