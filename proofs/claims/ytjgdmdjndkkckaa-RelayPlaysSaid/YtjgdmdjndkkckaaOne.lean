/-
  one: an act on both, over one state (the acts written out by mkone.py).
-/
import Derived.Test.YtjgdmdjndkkckaaStB
import Derived.Deep.RegionHeld3
namespace Go.Proofs.Ytjgdmdjndkkckaa
open Go.Conc Go.RowKit

def key (x : St) : Option (Nat × Nat × Nat) := x.map fun y => (y.b, y.c, y.r)
structure Holds (w : World) (base : Nat) (S : Nat → St) : Prop where
  box : ∀ i, i < 3 → BoxSt w (S i)
  ref : ∀ i, i < 3 → RefSt w base (S i)
  apart : ∀ i j, i < 3 → j < 3 → i ≠ j → Apart (S i) (S j)
  up : ∀ i y, i < 3 → S i = some y → base ≤ y.b ∧ base ≤ y.c ∧ base ≤ y.r

theorem key_some {x x' : St} (h : key x' = key x) {y' : Bx} (hy : x' = some y') : ∃ y, x = some y ∧ y'.b = y.b ∧ y'.c = y.c ∧ y'.r = y.r := by
  subst hy
  cases x with
  | none => simp [key] at h
  | some y => simp [key] at h; exact ⟨y, rfl, h.1, h.2.1, h.2.2⟩
theorem key_apart {x x' y y' : St} (hx : key x' = key x) (hy : key y' = key y) (h : Apart x y) : Apart x' y' := by
  intro a' b' ha hb
  obtain ⟨a, hxa, e1, e2, e3⟩ := key_some hx ha
  obtain ⟨b, hyb, f1, f2, f3⟩ := key_some hy hb
  have := h a b hxa hyb
  rw [e1, e2, e3, f1, f2, f3]
  exact this
theorem key_bp {x x' : St} (h : key x' = key x) : bp x' = bp x ∧ rp x' = rp x := by
  cases x <;> cases x' <;> simp_all [key, bp, rp]
theorem key_c {x x' : St} (h : key x' = key x) {k : Nat} (hk : cOf x' k) : cOf x k := by
  obtain ⟨y', hy, e⟩ := hk
  obtain ⟨y, hx, _, e2, _⟩ := key_some h hy
  exact ⟨y, hx, e.trans e2⟩

/-- The arrays and the act, in boxes of their own, from block N on. -/
structure Fr (W : World) (N : Nat) (S : Nat → St) (d box n : Int) (s : ByteArray) : Prop where
  a : ∀ j, j < 3 → W.cell? ⟨N, j, none⟩ = some (.pointer (bp (S j)))
  r : ∀ j, j < 3 → W.cell? ⟨N + 1, j, none⟩ = some (.pointer (rp (S j)))
  x2 : W.cell? ⟨N + 1 + 1, 2, none⟩ = some (.int .i64 n)
  x3 : W.cell? ⟨N + 1 + 1, 3, none⟩ = some (.string s)
  lt : N + 1 + 1 < W.heap.size
abbrev arrB (S : Nat → St) : Value := .agg #[.pointer (bp (S 0)), .pointer (bp (S 1)), .pointer (bp (S 2))]
abbrev arrR (S : Nat → St) : Value := .agg #[.pointer (rp (S 0)), .pointer (rp (S 1)), .pointer (rp (S 2))]
def boxed (w : World) (S : Nat → St) (d box n : Int) (s : ByteArray) : World :=
  ((w.alloc (.cells #[.pointer (bp (S 0)), .pointer (bp (S 1)), .pointer (bp (S 2))] 42)).alloc (.cells #[.pointer (rp (S 0)), .pointer (rp (S 1)), .pointer (rp (S 2))] 44)).alloc (.cells #[.int .i64 d, .int .i64 box, .int .i64 n, .string s] 31)
theorem boxed_turn (w : World) (S : Nat → St) (d box n : Int) (s : ByteArray) : Turn (fun _ => False) w (boxed w S d box n s) := (((Turn.refl _ w).alloc _).alloc _).alloc _
theorem boxed_fr (w : World) (S : Nat → St) (d box n : Int) (s : ByteArray) : Fr (boxed w S d box n s) w.heap.size S d box n s := by
  unfold boxed
  refine ⟨?_, ?_, by simp [go_sem], by simp [go_sem], by simp⟩
  · intro j hj
    obtain rfl | rfl | rfl : j = 0 ∨ j = 1 ∨ j = 2 := by omega
    all_goals simp [go_sem]
  · intro j hj
    obtain rfl | rfl | rfl : j = 0 ∨ j = 1 ∨ j = 2 := by omega
    all_goals simp [go_sem]
section
variable {w w' : World} {base N : Nat} {S : Nat → St} {d box n : Int} {s : ByteArray}
theorem Fr.keep {P : Nat → Prop} (h : Fr w N S d box n s) (t : Turn P w w') (hP : ∀ k, P k → k < N) : Fr w' N S d box n s := by
  have hl := h.lt
  have f : ∀ b j, N ≤ b → b ≤ N + 1 + 1 → w'.cell? ⟨b, j, none⟩ = w.cell? ⟨b, j, none⟩ := fun b j h1 h2 => t.cell (p := ⟨b, j, none⟩) (show b < w.heap.size by omega) (fun hp => by have := hP _ hp; simp only at this; omega)
  exact ⟨fun j hj => (f _ _ (by omega) (by omega)).trans (h.a j hj), fun j hj => (f _ _ (by omega) (by omega)).trans (h.r j hj), (f _ _ (by omega) (by omega)).trans h.x2, (f _ _ (by omega) (by omega)).trans h.x3, Nat.lt_of_lt_of_le hl t.size⟩
theorem Fr.drewN (h : Fr w N S d box n s) (k : Nat) : Fr (w.drewN k) N S d box n s := ⟨h.a, h.r, h.x2, h.x3, h.lt⟩
theorem Holds.turn (h : Holds w base S) (t : Turn (fun _ => False) w w') : Holds w' base S :=
  ⟨fun i hi y hy => ⟨(h.box i hi y hy).1.turn t (fun h => h) (fun h => h), (h.box i hi y hy).2⟩, fun i hi y hy => ⟨(h.ref i hi y hy).1.turn t (fun h => h) (fun _ h => h.elim), (h.ref i hi y hy).2⟩, h.apart, h.up⟩
theorem Holds.drewN (h : Holds w base S) (k : Nat) : Holds (w.drewN k) base S := h.turn ((Turn.refl _ w).drewN k)
theorem Holds.cLt (h : Holds w base S) {i : Nat} (hi : i < 3) (hs : w.heap.size ≤ N) : ∀ k, cOf (S i) k → k < N := by
  rintro k ⟨y, hy, rfl⟩
  have := (h.box i hi y hy).1.lt.2
  omega
theorem Holds.rLt (h : Holds w base S) {i : Nat} (hi : i < 3) (hs : w.heap.size ≤ N) : ∀ k, rOf (S i) k → k < N := by
  rintro k ⟨y, hy, rfl⟩
  have := (h.ref i hi y hy).1.lt
  omega
end

/-- What an act may turn. -/
def touch (S : Nat → St) (k : Nat) : Prop := ∃ i, i < 3 ∧ (cOf (S i) k ∨ rOf (S i) k)
def OnePost (w : World) (base : Nat) (S : Nat → St) (e : Ending) (w' : World) : Prop :=
  e = .returned (.bool true) ∧ Turn (touch S) w w' ∧ ∃ S', Holds w' base S' ∧ ∀ i, i < 3 → key (S' i) = key (S i)

def upd (S : Nat → St) (i : Nat) (x : St) : Nat → St := fun j => if j = i then x else S j

section
variable {w w1 w2 : World} {base : Nat} {S : Nat → St} {i : Nat} {x' : St}
theorem up_turn_c (hi : i < 3) {v v' : World} (t : Turn (cOf (S i)) v v') : Turn (touch S) v v' := t.mono fun _ _ hk => ⟨i, hi, .inl hk⟩
theorem up_turn_r (hi : i < 3) {v v' : World} (t : Turn (rOf (S i)) v v') : Turn (touch S) v v' := t.mono fun _ _ hk => ⟨i, hi, .inr hk⟩
/-- What an act on one number leaves. -/
theorem holds_one (h : Holds w base S) (hi : i < 3) (hb : BoxDo w (S i) x' w1) (hr : RefDo w1 base (S i) x' w2) (hk : key x' = key (S i)) : Holds w2 base (upd S i x') := by
  have hb1 : ∀ j, j < 3 → j ≠ i → BoxSt w1 (S j) := fun j hj hne => (h.box j hj).keep (h.box i hi) (h.apart i j hi hj (fun e => hne e.symm)) hb.turn
  have hr1 : ∀ j, j < 3 → RefSt w1 base (S j) := fun j hj => (h.ref j hj).keepc (h.box i hi) hb.turn
  refine ⟨fun j hj => ?_, fun j hj => ?_, fun j k hj hk' hne => ?_, fun j y hj hy => ?_⟩
  · unfold upd; split
    · exact hb.box.keepr (hr1 i hi) hr.turn
    · rename_i hne; exact (hb1 j hj hne).keepr (hr1 i hi) hr.turn
  · unfold upd; split
    · exact hr.ref
    · rename_i hne; exact (hr1 j hj).keep (hr1 i hi) (h.apart i j hi hj (fun e => hne e.symm)) hr.turn
  · unfold upd
    have hkk : ∀ j, key (if j = i then x' else S j) = key (S j) := fun j => by split <;> simp_all
    exact key_apart (hkk j) (hkk k) (h.apart j k hj hk' hne)
  · unfold upd at hy
    split at hy
    · rename_i e
      obtain ⟨z, hz, e1, e2, e3⟩ := key_some hk hy
      have := h.up i z hi hz
      rw [e1, e2, e3]; exact this
    · exact h.up j y hj hy
theorem key_upd (hk : key x' = key (S i)) (j : Nat) : key (upd S i x' j) = key (S j) := by
  unfold upd; split
  · rename_i e; rw [hk, e]
  · rfl
end
theorem key_put (x : St) (s : ByteArray) : key (putS x s) = key x := by
  cases x with
  | none => rfl
  | some y => simp only [putS]; split <;> rfl
theorem key_take (x : St) : key (takeS x) = key x := by cases x <;> rfl
theorem key_all (x : St) : key (allS x) = key x := by cases x <;> rfl

theorem done_one {w W w1 w2 w3 : World} {base i : Nat} {S : Nat → St} {x' : St} {k : Nat} (t : Turn (fun _ => False) w W) (h : Holds W base S) (hi : i < 3) (hb : BoxDo W (S i) x' w1) (hr : RefDo w1 base (S i) x' w2) (hk : key x' = key (S i)) (e : w2.drewN k = w3) :
    OnePost w base S (.returned (.bool true)) w3 := by
  subst e
  have h2 := (holds_one h hi hb hr hk).drewN k
  exact ⟨rfl, ((((t.mono fun _ _ h => h.elim).trans (up_turn_c hi hb.turn)).trans (up_turn_r hi hr.turn)).drewN k), _, h2, fun j _ => key_upd hk j⟩

theorem own_keepr {w w' : World} {b base : Nat} {x : St} {v : Value} {n : Nat} {xs : List Value} (h : w.ownsRow b 9 1 v n xs) (hx : RefSt w base x) (t : Turn (rOf x) w w') : w'.ownsRow b 9 1 v n xs :=
  ownsRow_turn h t fun g hg ⟨y, hy, e⟩ => by
    obtain ⟨v', h1, _⟩ := (hx y hy).1
    rw [← e] at h1
    exact ownsRow_other h h1 (fun _ _ e => by cases e) hg
theorem all_le {w : World} {x : St} (h : BoxSt w x) : (allL x).length ≤ 1000000 := by
  cases x with
  | none => simp [allL]
  | some y => obtain ⟨_, _, h2, h3⟩ := h y rfl; simp only [allL]; omega

section
variable {w w' : World} {x y z : St} {base : Nat}
theorem BoxSt.keep2 (h : BoxSt w y) (hx : BoxSt w x) (hz : BoxSt w z) (ha : Apart x y) (hb : Apart z y) (t : Turn (fun k => cOf x k ∨ cOf z k) w w') : BoxSt w' y := by
  intro b hb'
  refine ⟨(h b hb').1.turn t ?_ ?_, (h b hb').2⟩
  · rintro (⟨a, hax, e⟩ | ⟨a, hax, e⟩)
    · exact (hx a hax).1.bc (h b hb').1 e.symm
    · exact (hz a hax).1.bc (h b hb').1 e.symm
  · rintro (⟨a, hax, e⟩ | ⟨a, hax, e⟩)
    · exact (ha a b hax hb').2.1 e.symm
    · exact (hb a b hax hb').2.1 e.symm
theorem RefSt.keepc2 (h : RefSt w base y) (hx : BoxSt w x) (hz : BoxSt w z) (t : Turn (fun k => cOf x k ∨ cOf z k) w w') : RefSt w' base y := by
  have hch : ∀ k, (cOf x k ∨ cOf z k) → ∃ cap buf s r, w.heap[k]? = some (.chan cap buf false s r false) := by
    rintro k (⟨a, hax, e⟩ | ⟨a, hax, e⟩)
    · obtain ⟨_, s, r, h2⟩ := (hx a hax).1; exact ⟨_, _, s, r, e ▸ h2⟩
    · obtain ⟨_, s, r, h2⟩ := (hz a hax).1; exact ⟨_, _, s, r, e ▸ h2⟩
  intro b hb
  refine ⟨(h b hb).1.turn t ?_ ?_, (h b hb).2⟩
  · intro hc
    obtain ⟨_, _, _, _, h2⟩ := hch _ hc
    obtain ⟨v, h1, _⟩ := (h b hb).1
    rw [h2] at h1; cases h1
  · intro k hc cur fz hk
    obtain ⟨_, _, _, _, h2⟩ := hch _ hc
    rw [h2] at hk; cases hk
theorem RefSt.keep2 (h : RefSt w base y) (hx : RefSt w base x) (hz : RefSt w base z) (ha : Apart x y) (hb : Apart z y) (t : Turn (fun k => rOf x k ∨ rOf z k) w w') : RefSt w' base y := by
  intro b hb'
  refine ⟨(h b hb').1.turn t ?_ ?_, (h b hb').2⟩
  · rintro (⟨a, hax, e⟩ | ⟨a, hax, e⟩)
    · exact (ha a b hax hb').2.2 e.symm
    · exact (hb a b hax hb').2.2 e.symm
  · rintro k hc cur fz hk
    rcases hc with ⟨a, hax, e⟩ | ⟨a, hax, e⟩
    · obtain ⟨v, h1, _⟩ := (hx a hax).1; rw [e, h1] at hk; cases hk
    · obtain ⟨v, h1, _⟩ := (hz a hax).1; rw [e, h1] at hk; cases hk
theorem BoxSt.keepr2 (h : BoxSt w y) (hx : RefSt w base x) (hz : RefSt w base z) (t : Turn (fun k => rOf x k ∨ rOf z k) w w') : BoxSt w' y := by
  have hch : ∀ k, (rOf x k ∨ rOf z k) → ∃ cs, w.heap[k]? = some (.cells cs 63 (0, 0)) := by
    rintro k (⟨a, hax, e⟩ | ⟨a, hax, e⟩)
    · obtain ⟨v, h1, _⟩ := (hx a hax).1; exact ⟨_, e ▸ h1⟩
    · obtain ⟨v, h1, _⟩ := (hz a hax).1; exact ⟨_, e ▸ h1⟩
  intro b hb
  refine ⟨(h b hb).1.turn t ?_ ?_, (h b hb).2⟩
  · intro hc
    obtain ⟨_, h2⟩ := hch _ hc
    have := (h b hb).1.1
    rw [h2] at this; cases this
  · intro hc
    obtain ⟨_, h2⟩ := hch _ hc
    obtain ⟨_, s, r, h3⟩ := (h b hb).1
    rw [h2] at h3; cases h3
end
/-- What an act on two numbers leaves. -/
theorem holds_two {w w1 w2 : World} {base : Nat} {S : Nat → St} {i k : Nat} {x' y' : St} (h : Holds w base S) (hi : i < 3) (hk : k < 3) (_hne : i ≠ k) (hb : BoxDo2 w (S i) (S k) x' y' w1) (hr : RefDo2 w1 base (S i) (S k) x' y' w2)
    (kx : key x' = key (S i)) (ky : key y' = key (S k)) : Holds w2 base (upd (upd S i x') k y') := by
  have hr1 : ∀ j, j < 3 → RefSt w1 base (S j) := fun j hj => (h.ref j hj).keepc2 (h.box i hi) (h.box k hk) hb.turn
  have hkk : ∀ j, key (upd (upd S i x') k y' j) = key (S j) := fun j => by
    unfold upd
    split
    · rename_i e; rw [ky, e]
    · split
      · rename_i e; rw [kx, e]
      · rfl
  refine ⟨fun j hj => ?_, fun j hj => ?_, fun j l hj hl hne' => key_apart (hkk j) (hkk l) (h.apart j l hj hl hne'), fun j y hj hy => ?_⟩
  · unfold upd; split
    · exact hb.two.keepr2 (hr1 i hi) (hr1 k hk) hr.turn
    · split
      · exact hb.one.keepr2 (hr1 i hi) (hr1 k hk) hr.turn
      · rename_i n1 n2
        exact ((h.box j hj).keep2 (h.box i hi) (h.box k hk) (h.apart i j hi hj (fun e => n2 e.symm)) (h.apart k j hk hj (fun e => n1 e.symm)) hb.turn).keepr2 (hr1 i hi) (hr1 k hk) hr.turn
  · unfold upd; split
    · exact hr.two
    · split
      · exact hr.one
      · rename_i n1 n2
        exact (hr1 j hj).keep2 (hr1 i hi) (hr1 k hk) (h.apart i j hi hj (fun e => n2 e.symm)) (h.apart k j hk hj (fun e => n1 e.symm)) hr.turn
  · obtain ⟨z, hz, e1, e2, e3⟩ := key_some (hkk j) hy
    have := h.up j z hj hz
    rw [e1, e2, e3]; exact this
theorem done_two {w W w1 w2 : World} {base i k : Nat} {S : Nat → St} {x' y' : St} (t : Turn (fun _ => False) w W) (h : Holds W base S) (hi : i < 3) (hk' : k < 3) (hne : i ≠ k) (hb : BoxDo2 W (S i) (S k) x' y' w1) (hr : RefDo2 w1 base (S i) (S k) x' y' w2)
    (kx : key x' = key (S i)) (ky : key y' = key (S k)) : OnePost w base S (.returned (.bool true)) w2 := by
  refine ⟨rfl, ((t.mono fun _ _ h => h.elim).trans (hb.turn.mono ?_)).trans (hr.turn.mono ?_), _, holds_two h hi hk' hne hb hr kx ky, fun j _ => ?_⟩
  · exact fun _ _ hk => hk.elim (fun c => ⟨i, hi, .inl c⟩) (fun c => ⟨k, hk', .inl c⟩)
  · exact fun _ _ hk => hk.elim (fun c => ⟨i, hi, .inr c⟩) (fun c => ⟨k, hk', .inr c⟩)
  · unfold upd
    split
    · rename_i e; rw [ky, e]
    · split
      · rename_i e; rw [kx, e]
      · rfl
theorem key_ei (x y : St) : key (ei x y).x = key x ∧ key (ei x y).y = key y := by
  match x, y with
  | none, none => exact ⟨rfl, rfl⟩
  | some ⟨b, c, r, cap, s :: l⟩, none => exact ⟨rfl, rfl⟩
  | some ⟨b, c, r, cap, s :: l⟩, some y => exact ⟨rfl, rfl⟩
  | none, some ⟨b, c, r, cap, s :: l⟩ => exact ⟨rfl, rfl⟩
  | some ⟨b', c', r', cap', []⟩, some ⟨b, c, r, cap, s :: l⟩ => exact ⟨rfl, rfl⟩
  | none, some ⟨b, c, r, cap, []⟩ => exact ⟨rfl, rfl⟩
  | some ⟨b, c, r, cap, []⟩, none => exact ⟨rfl, rfl⟩
  | some ⟨b', c', r', cap', []⟩, some ⟨b, c, r, cap, []⟩ => exact ⟨rfl, rfl⟩
theorem key_mvX (x y : St) (m : Int) : key (mvX x y m) = key x := by cases x <;> rfl
theorem key_mvY (x y : St) (m : Int) : key (mvY x y m) = key y := by cases y <;> rfl
set_option maxRecDepth 100000 in
set_option maxHeartbeats 1000000 in
theorem put_act_0 (S : Nat → St) (base : Nat) (w : World) (h : Holds w base S) (hbase : base ≤ w.heap.size) (box n : Int) (s : ByteArray) (hbox : (wrap64 (box.tmod 3 + 3)).tmod 3 = 0) :
    Calls Try.prog 18 #[arrB S, arrR S, .agg #[.int .i64 0, .int .i64 box, .int .i64 n, .string s]] w (OnePost w base S) := by
  have hW : boxed w S 0 box n s = ((w.alloc (.cells #[.pointer (bp (S 0)), .pointer (bp (S 1)), .pointer (bp (S 2))] 42)).alloc (.cells #[.pointer (rp (S 0)), .pointer (rp (S 1)), .pointer (rp (S 2))] 44)).alloc (.cells #[.int .i64 0, .int .i64 box, .int .i64 n, .string s] 31) := rfl
  have HW := hide hW
  have tW := boxed_turn w S 0 box n s
  have fW := boxed_fr w S 0 box n s
  have hWh := h.turn tW
  have hbW : base ≤ (boxed w S 0 box n s).heap.size := Nat.le_trans hbase tW.size
  clear hW
  generalize boxed w S 0 box n s = W at *
  have f1 := fW.a 0 (by omega)
  have f3 := fW.x3
  have HC := hide (h.cLt (i := 0) (by omega) (Nat.le_refl _))
  have HR := hide (h.rLt (i := 0) (by omega) (Nat.le_refl _))
  have hq : (putC (S 0) == putC (S 0)) = true := by simp
  go_enter Try.func18, Try.ntmps18
  go_wp2_with fail
  rw [← HW.out]
  go_region_held3 (fun w' => w'.cell? ⟨w.heap.size, 0, none⟩ = some (.pointer (bp (S 0))) ∧ w'.cell? ⟨w.heap.size + 1 + 1, 3, none⟩ = some (.string s)) (go_keep)
    (first | (go_at_call 11; refine (put_st (S 0) s _ (by exact hWh.box 0 (by omega))).mono ?_; rintro e w1 ⟨rfl, h1⟩; have h1' : BoxDo W (S 0) (putS (S 0) s) w1 := ⟨h1.box, ⟨h1.turn.os, h1.turn.tape, h1.turn.output, h1.turn.size, h1.turn.block⟩⟩; have fW1 := fW.keep h1'.turn HC.out; have g0 := fW1.a 0 (by omega); have g1 := fW1.r 0 (by omega); have g3 := fW1.x3))
  have hr1 : RefSt w1 base (S 0) := (hWh.ref 0 (by omega)).keepc (hWh.box 0 (by omega)) h1'.turn
  have hb1 : base ≤ w1.heap.size := Nat.le_trans hbW h1'.turn.size
  clear f1 f3
  go_wp2_with fail
  go_region_held3 (fun w' => w'.cell? ⟨w.heap.size + 1, 0, none⟩ = some (.pointer (rp (S 0))) ∧ w'.cell? ⟨w.heap.size + 1 + 1, 3, none⟩ = some (.string s)) (go_keep)
    (first | (go_at_call 26; refine (rput_st (S 0) s base _ (by exact hr1) (by exact hb1)).mono ?_; rintro e w2 ⟨rfl, h2⟩; have h2' : RefDo w1 base (S 0) (putS (S 0) s) w2 := ⟨h2.ref, ⟨h2.turn.os, h2.turn.tape, h2.turn.output, h2.turn.size, h2.turn.block⟩⟩; have fW2 := fW1.keep h2'.turn HR.out; have k1 := fW2.r 0 (by omega); have k3 := fW2.x3))
  go_wp2_with fail
  go_ret
  exact done_one (k := 0) tW hWh (by omega) h1' h2' (key_put _ _) rfl
set_option maxRecDepth 100000 in
set_option maxHeartbeats 1000000 in
theorem put_act_1 (S : Nat → St) (base : Nat) (w : World) (h : Holds w base S) (hbase : base ≤ w.heap.size) (box n : Int) (s : ByteArray) (hbox : (wrap64 (box.tmod 3 + 3)).tmod 3 = 1) :
    Calls Try.prog 18 #[arrB S, arrR S, .agg #[.int .i64 0, .int .i64 box, .int .i64 n, .string s]] w (OnePost w base S) := by
  have hW : boxed w S 0 box n s = ((w.alloc (.cells #[.pointer (bp (S 0)), .pointer (bp (S 1)), .pointer (bp (S 2))] 42)).alloc (.cells #[.pointer (rp (S 0)), .pointer (rp (S 1)), .pointer (rp (S 2))] 44)).alloc (.cells #[.int .i64 0, .int .i64 box, .int .i64 n, .string s] 31) := rfl
  have HW := hide hW
  have tW := boxed_turn w S 0 box n s
  have fW := boxed_fr w S 0 box n s
  have hWh := h.turn tW
  have hbW : base ≤ (boxed w S 0 box n s).heap.size := Nat.le_trans hbase tW.size
  clear hW
  generalize boxed w S 0 box n s = W at *
  have f1 := fW.a 1 (by omega)
  have f3 := fW.x3
  have HC := hide (h.cLt (i := 1) (by omega) (Nat.le_refl _))
  have HR := hide (h.rLt (i := 1) (by omega) (Nat.le_refl _))
  have hq : (putC (S 1) == putC (S 1)) = true := by simp
  go_enter Try.func18, Try.ntmps18
  go_wp2_with fail
  rw [← HW.out]
  go_region_held3 (fun w' => w'.cell? ⟨w.heap.size, 1, none⟩ = some (.pointer (bp (S 1))) ∧ w'.cell? ⟨w.heap.size + 1 + 1, 3, none⟩ = some (.string s)) (go_keep)
    (first | (go_at_call 11; refine (put_st (S 1) s _ (by exact hWh.box 1 (by omega))).mono ?_; rintro e w1 ⟨rfl, h1⟩; have h1' : BoxDo W (S 1) (putS (S 1) s) w1 := ⟨h1.box, ⟨h1.turn.os, h1.turn.tape, h1.turn.output, h1.turn.size, h1.turn.block⟩⟩; have fW1 := fW.keep h1'.turn HC.out; have g0 := fW1.a 1 (by omega); have g1 := fW1.r 1 (by omega); have g3 := fW1.x3))
  have hr1 : RefSt w1 base (S 1) := (hWh.ref 1 (by omega)).keepc (hWh.box 1 (by omega)) h1'.turn
  have hb1 : base ≤ w1.heap.size := Nat.le_trans hbW h1'.turn.size
  clear f1 f3
  go_wp2_with fail
  go_region_held3 (fun w' => w'.cell? ⟨w.heap.size + 1, 1, none⟩ = some (.pointer (rp (S 1))) ∧ w'.cell? ⟨w.heap.size + 1 + 1, 3, none⟩ = some (.string s)) (go_keep)
    (first | (go_at_call 26; refine (rput_st (S 1) s base _ (by exact hr1) (by exact hb1)).mono ?_; rintro e w2 ⟨rfl, h2⟩; have h2' : RefDo w1 base (S 1) (putS (S 1) s) w2 := ⟨h2.ref, ⟨h2.turn.os, h2.turn.tape, h2.turn.output, h2.turn.size, h2.turn.block⟩⟩; have fW2 := fW1.keep h2'.turn HR.out; have k1 := fW2.r 1 (by omega); have k3 := fW2.x3))
  go_wp2_with fail
  go_ret
  exact done_one (k := 0) tW hWh (by omega) h1' h2' (key_put _ _) rfl
set_option maxRecDepth 100000 in
set_option maxHeartbeats 1000000 in
theorem put_act_2 (S : Nat → St) (base : Nat) (w : World) (h : Holds w base S) (hbase : base ≤ w.heap.size) (box n : Int) (s : ByteArray) (hbox : (wrap64 (box.tmod 3 + 3)).tmod 3 = 2) :
    Calls Try.prog 18 #[arrB S, arrR S, .agg #[.int .i64 0, .int .i64 box, .int .i64 n, .string s]] w (OnePost w base S) := by
  have hW : boxed w S 0 box n s = ((w.alloc (.cells #[.pointer (bp (S 0)), .pointer (bp (S 1)), .pointer (bp (S 2))] 42)).alloc (.cells #[.pointer (rp (S 0)), .pointer (rp (S 1)), .pointer (rp (S 2))] 44)).alloc (.cells #[.int .i64 0, .int .i64 box, .int .i64 n, .string s] 31) := rfl
  have HW := hide hW
  have tW := boxed_turn w S 0 box n s
  have fW := boxed_fr w S 0 box n s
  have hWh := h.turn tW
  have hbW : base ≤ (boxed w S 0 box n s).heap.size := Nat.le_trans hbase tW.size
  clear hW
  generalize boxed w S 0 box n s = W at *
  have f1 := fW.a 2 (by omega)
  have f3 := fW.x3
  have HC := hide (h.cLt (i := 2) (by omega) (Nat.le_refl _))
  have HR := hide (h.rLt (i := 2) (by omega) (Nat.le_refl _))
  have hq : (putC (S 2) == putC (S 2)) = true := by simp
  go_enter Try.func18, Try.ntmps18
  go_wp2_with fail
  rw [← HW.out]
  go_region_held3 (fun w' => w'.cell? ⟨w.heap.size, 2, none⟩ = some (.pointer (bp (S 2))) ∧ w'.cell? ⟨w.heap.size + 1 + 1, 3, none⟩ = some (.string s)) (go_keep)
    (first | (go_at_call 11; refine (put_st (S 2) s _ (by exact hWh.box 2 (by omega))).mono ?_; rintro e w1 ⟨rfl, h1⟩; have h1' : BoxDo W (S 2) (putS (S 2) s) w1 := ⟨h1.box, ⟨h1.turn.os, h1.turn.tape, h1.turn.output, h1.turn.size, h1.turn.block⟩⟩; have fW1 := fW.keep h1'.turn HC.out; have g0 := fW1.a 2 (by omega); have g1 := fW1.r 2 (by omega); have g3 := fW1.x3))
  have hr1 : RefSt w1 base (S 2) := (hWh.ref 2 (by omega)).keepc (hWh.box 2 (by omega)) h1'.turn
  have hb1 : base ≤ w1.heap.size := Nat.le_trans hbW h1'.turn.size
  clear f1 f3
  go_wp2_with fail
  go_region_held3 (fun w' => w'.cell? ⟨w.heap.size + 1, 2, none⟩ = some (.pointer (rp (S 2))) ∧ w'.cell? ⟨w.heap.size + 1 + 1, 3, none⟩ = some (.string s)) (go_keep)
    (first | (go_at_call 26; refine (rput_st (S 2) s base _ (by exact hr1) (by exact hb1)).mono ?_; rintro e w2 ⟨rfl, h2⟩; have h2' : RefDo w1 base (S 2) (putS (S 2) s) w2 := ⟨h2.ref, ⟨h2.turn.os, h2.turn.tape, h2.turn.output, h2.turn.size, h2.turn.block⟩⟩; have fW2 := fW1.keep h2'.turn HR.out; have k1 := fW2.r 2 (by omega); have k3 := fW2.x3))
  go_wp2_with fail
  go_ret
  exact done_one (k := 0) tW hWh (by omega) h1' h2' (key_put _ _) rfl
set_option maxRecDepth 100000 in
set_option maxHeartbeats 1000000 in
theorem take_act_0 (S : Nat → St) (base : Nat) (w : World) (h : Holds w base S) (hbase : base ≤ w.heap.size) (box n : Int) (s : ByteArray) (hbox : (wrap64 (box.tmod 3 + 3)).tmod 3 = 0) :
    Calls Try.prog 18 #[arrB S, arrR S, .agg #[.int .i64 1, .int .i64 box, .int .i64 n, .string s]] w (OnePost w base S) := by
  have hW : boxed w S 1 box n s = ((w.alloc (.cells #[.pointer (bp (S 0)), .pointer (bp (S 1)), .pointer (bp (S 2))] 42)).alloc (.cells #[.pointer (rp (S 0)), .pointer (rp (S 1)), .pointer (rp (S 2))] 44)).alloc (.cells #[.int .i64 1, .int .i64 box, .int .i64 n, .string s] 31) := rfl
  have HW := hide hW
  have tW := boxed_turn w S 1 box n s
  have fW := boxed_fr w S 1 box n s
  have hWh := h.turn tW
  have hbW : base ≤ (boxed w S 1 box n s).heap.size := Nat.le_trans hbase tW.size
  clear hW
  generalize boxed w S 1 box n s = W at *
  have HC := hide (h.cLt (i := 0) (by omega) (Nat.le_refl _))
  have hq1 : ((takeV (S 0)).toList == (takeV (S 0)).toList) = true := by simp
  have hq2 : (takeC (S 0) == takeC (S 0)) = true := by simp
  go_enter Try.func18, Try.ntmps18
  go_wp2_with fail
  rw [← HW.out]
  refine (take_st (S 0) W (hWh.box 0 (by omega))).mono ?_
  rintro e w1 ⟨rfl, h1⟩
  have fW1 := fW.keep h1.turn HC.out
  have g1 := fW1.r 0 (by omega)
  have hr1 : RefSt w1 base (S 0) := (hWh.ref 0 (by omega)).keepc (hWh.box 0 (by omega)) h1.turn
  have hb1 : base ≤ w1.heap.size := Nat.le_trans hbW h1.turn.size
  go_wp2_with fail
  refine (rtake_st (S 0) base w1 hr1 hb1).mono ?_
  rintro e w2 ⟨rfl, h2⟩
  go_wp2_with fail
  go_ret
  exact done_one (k := 0) tW hWh (by omega) h1 h2 (key_take _) rfl
set_option maxRecDepth 100000 in
set_option maxHeartbeats 1000000 in
theorem take_act_1 (S : Nat → St) (base : Nat) (w : World) (h : Holds w base S) (hbase : base ≤ w.heap.size) (box n : Int) (s : ByteArray) (hbox : (wrap64 (box.tmod 3 + 3)).tmod 3 = 1) :
    Calls Try.prog 18 #[arrB S, arrR S, .agg #[.int .i64 1, .int .i64 box, .int .i64 n, .string s]] w (OnePost w base S) := by
  have hW : boxed w S 1 box n s = ((w.alloc (.cells #[.pointer (bp (S 0)), .pointer (bp (S 1)), .pointer (bp (S 2))] 42)).alloc (.cells #[.pointer (rp (S 0)), .pointer (rp (S 1)), .pointer (rp (S 2))] 44)).alloc (.cells #[.int .i64 1, .int .i64 box, .int .i64 n, .string s] 31) := rfl
  have HW := hide hW
  have tW := boxed_turn w S 1 box n s
  have fW := boxed_fr w S 1 box n s
  have hWh := h.turn tW
  have hbW : base ≤ (boxed w S 1 box n s).heap.size := Nat.le_trans hbase tW.size
  clear hW
  generalize boxed w S 1 box n s = W at *
  have HC := hide (h.cLt (i := 1) (by omega) (Nat.le_refl _))
  have hq1 : ((takeV (S 1)).toList == (takeV (S 1)).toList) = true := by simp
  have hq2 : (takeC (S 1) == takeC (S 1)) = true := by simp
  go_enter Try.func18, Try.ntmps18
  go_wp2_with fail
  rw [← HW.out]
  refine (take_st (S 1) W (hWh.box 1 (by omega))).mono ?_
  rintro e w1 ⟨rfl, h1⟩
  have fW1 := fW.keep h1.turn HC.out
  have g1 := fW1.r 1 (by omega)
  have hr1 : RefSt w1 base (S 1) := (hWh.ref 1 (by omega)).keepc (hWh.box 1 (by omega)) h1.turn
  have hb1 : base ≤ w1.heap.size := Nat.le_trans hbW h1.turn.size
  go_wp2_with fail
  refine (rtake_st (S 1) base w1 hr1 hb1).mono ?_
  rintro e w2 ⟨rfl, h2⟩
  go_wp2_with fail
  go_ret
  exact done_one (k := 0) tW hWh (by omega) h1 h2 (key_take _) rfl
set_option maxRecDepth 100000 in
set_option maxHeartbeats 1000000 in
theorem take_act_2 (S : Nat → St) (base : Nat) (w : World) (h : Holds w base S) (hbase : base ≤ w.heap.size) (box n : Int) (s : ByteArray) (hbox : (wrap64 (box.tmod 3 + 3)).tmod 3 = 2) :
    Calls Try.prog 18 #[arrB S, arrR S, .agg #[.int .i64 1, .int .i64 box, .int .i64 n, .string s]] w (OnePost w base S) := by
  have hW : boxed w S 1 box n s = ((w.alloc (.cells #[.pointer (bp (S 0)), .pointer (bp (S 1)), .pointer (bp (S 2))] 42)).alloc (.cells #[.pointer (rp (S 0)), .pointer (rp (S 1)), .pointer (rp (S 2))] 44)).alloc (.cells #[.int .i64 1, .int .i64 box, .int .i64 n, .string s] 31) := rfl
  have HW := hide hW
  have tW := boxed_turn w S 1 box n s
  have fW := boxed_fr w S 1 box n s
  have hWh := h.turn tW
  have hbW : base ≤ (boxed w S 1 box n s).heap.size := Nat.le_trans hbase tW.size
  clear hW
  generalize boxed w S 1 box n s = W at *
  have HC := hide (h.cLt (i := 2) (by omega) (Nat.le_refl _))
  have hq1 : ((takeV (S 2)).toList == (takeV (S 2)).toList) = true := by simp
  have hq2 : (takeC (S 2) == takeC (S 2)) = true := by simp
  go_enter Try.func18, Try.ntmps18
  go_wp2_with fail
  rw [← HW.out]
  refine (take_st (S 2) W (hWh.box 2 (by omega))).mono ?_
  rintro e w1 ⟨rfl, h1⟩
  have fW1 := fW.keep h1.turn HC.out
  have g1 := fW1.r 2 (by omega)
  have hr1 : RefSt w1 base (S 2) := (hWh.ref 2 (by omega)).keepc (hWh.box 2 (by omega)) h1.turn
  have hb1 : base ≤ w1.heap.size := Nat.le_trans hbW h1.turn.size
  go_wp2_with fail
  refine (rtake_st (S 2) base w1 hr1 hb1).mono ?_
  rintro e w2 ⟨rfl, h2⟩
  go_wp2_with fail
  go_ret
  exact done_one (k := 0) tW hWh (by omega) h1 h2 (key_take _) rfl
set_option maxRecDepth 100000 in
set_option maxHeartbeats 1000000 in
theorem all_act_0 (S : Nat → St) (base : Nat) (w : World) (h : Holds w base S) (hbase : base ≤ w.heap.size) (box n : Int) (s : ByteArray) (hbox : (wrap64 (box.tmod 3 + 3)).tmod 3 = 0) :
    Calls Try.prog 18 #[arrB S, arrR S, .agg #[.int .i64 2, .int .i64 box, .int .i64 n, .string s]] w (OnePost w base S) := by
  have hW : boxed w S 2 box n s = ((w.alloc (.cells #[.pointer (bp (S 0)), .pointer (bp (S 1)), .pointer (bp (S 2))] 42)).alloc (.cells #[.pointer (rp (S 0)), .pointer (rp (S 1)), .pointer (rp (S 2))] 44)).alloc (.cells #[.int .i64 2, .int .i64 box, .int .i64 n, .string s] 31) := rfl
  have HW := hide hW
  have tW := boxed_turn w S 2 box n s
  have fW := boxed_fr w S 2 box n s
  have hWh := h.turn tW
  have hbW : base ≤ (boxed w S 2 box n s).heap.size := Nat.le_trans hbase tW.size
  clear hW
  generalize boxed w S 2 box n s = W at *
  have HC := hide (h.cLt (i := 0) (by omega) (Nat.le_refl _))
  have hle := all_le (hWh.box 0 (by omega))
  go_enter Try.func18, Try.ntmps18
  go_wp2_with fail
  rw [← HW.out]
  refine (all_st (S 0) W (hWh.box 0 (by omega))).mono ?_
  rintro e w1 ⟨v1, rfl, h1, o1⟩
  have fW1 := fW.keep h1.turn HC.out
  have g1 := fW1.r 0 (by omega)
  have hr1 : RefSt w1 base (S 0) := (hWh.ref 0 (by omega)).keepc (hWh.box 0 (by omega)) h1.turn
  have O1 := hide o1
  clear o1
  go_wp2_with fail
  refine (rall_st (S 0) base w1 hr1).mono ?_
  rintro e w2 ⟨v2, rfl, h2, o2⟩
  have O2 := hide o2
  clear o2
  go_wp2_with fail
  refine (same_eq v1 v2 (allL (S 0)) w2 (Rd.of_own (own_keepr O1.out hr1 h2.turn)) (Rd.of_own O2.out) hle).mono ?_
  rintro e w3 ⟨rfl, n3, e3⟩
  go_wp2_with fail
  go_ret
  exact done_one (k := n3) tW hWh (by omega) h1 h2 (key_all _) e3
set_option maxRecDepth 100000 in
set_option maxHeartbeats 1000000 in
theorem all_act_1 (S : Nat → St) (base : Nat) (w : World) (h : Holds w base S) (hbase : base ≤ w.heap.size) (box n : Int) (s : ByteArray) (hbox : (wrap64 (box.tmod 3 + 3)).tmod 3 = 1) :
    Calls Try.prog 18 #[arrB S, arrR S, .agg #[.int .i64 2, .int .i64 box, .int .i64 n, .string s]] w (OnePost w base S) := by
  have hW : boxed w S 2 box n s = ((w.alloc (.cells #[.pointer (bp (S 0)), .pointer (bp (S 1)), .pointer (bp (S 2))] 42)).alloc (.cells #[.pointer (rp (S 0)), .pointer (rp (S 1)), .pointer (rp (S 2))] 44)).alloc (.cells #[.int .i64 2, .int .i64 box, .int .i64 n, .string s] 31) := rfl
  have HW := hide hW
  have tW := boxed_turn w S 2 box n s
  have fW := boxed_fr w S 2 box n s
  have hWh := h.turn tW
  have hbW : base ≤ (boxed w S 2 box n s).heap.size := Nat.le_trans hbase tW.size
  clear hW
  generalize boxed w S 2 box n s = W at *
  have HC := hide (h.cLt (i := 1) (by omega) (Nat.le_refl _))
  have hle := all_le (hWh.box 1 (by omega))
  go_enter Try.func18, Try.ntmps18
  go_wp2_with fail
  rw [← HW.out]
  refine (all_st (S 1) W (hWh.box 1 (by omega))).mono ?_
  rintro e w1 ⟨v1, rfl, h1, o1⟩
  have fW1 := fW.keep h1.turn HC.out
  have g1 := fW1.r 1 (by omega)
  have hr1 : RefSt w1 base (S 1) := (hWh.ref 1 (by omega)).keepc (hWh.box 1 (by omega)) h1.turn
  have O1 := hide o1
  clear o1
  go_wp2_with fail
  refine (rall_st (S 1) base w1 hr1).mono ?_
  rintro e w2 ⟨v2, rfl, h2, o2⟩
  have O2 := hide o2
  clear o2
  go_wp2_with fail
  refine (same_eq v1 v2 (allL (S 1)) w2 (Rd.of_own (own_keepr O1.out hr1 h2.turn)) (Rd.of_own O2.out) hle).mono ?_
  rintro e w3 ⟨rfl, n3, e3⟩
  go_wp2_with fail
  go_ret
  exact done_one (k := n3) tW hWh (by omega) h1 h2 (key_all _) e3
set_option maxRecDepth 100000 in
set_option maxHeartbeats 1000000 in
theorem all_act_2 (S : Nat → St) (base : Nat) (w : World) (h : Holds w base S) (hbase : base ≤ w.heap.size) (box n : Int) (s : ByteArray) (hbox : (wrap64 (box.tmod 3 + 3)).tmod 3 = 2) :
    Calls Try.prog 18 #[arrB S, arrR S, .agg #[.int .i64 2, .int .i64 box, .int .i64 n, .string s]] w (OnePost w base S) := by
  have hW : boxed w S 2 box n s = ((w.alloc (.cells #[.pointer (bp (S 0)), .pointer (bp (S 1)), .pointer (bp (S 2))] 42)).alloc (.cells #[.pointer (rp (S 0)), .pointer (rp (S 1)), .pointer (rp (S 2))] 44)).alloc (.cells #[.int .i64 2, .int .i64 box, .int .i64 n, .string s] 31) := rfl
  have HW := hide hW
  have tW := boxed_turn w S 2 box n s
  have fW := boxed_fr w S 2 box n s
  have hWh := h.turn tW
  have hbW : base ≤ (boxed w S 2 box n s).heap.size := Nat.le_trans hbase tW.size
  clear hW
  generalize boxed w S 2 box n s = W at *
  have HC := hide (h.cLt (i := 2) (by omega) (Nat.le_refl _))
  have hle := all_le (hWh.box 2 (by omega))
  go_enter Try.func18, Try.ntmps18
  go_wp2_with fail
  rw [← HW.out]
  refine (all_st (S 2) W (hWh.box 2 (by omega))).mono ?_
  rintro e w1 ⟨v1, rfl, h1, o1⟩
  have fW1 := fW.keep h1.turn HC.out
  have g1 := fW1.r 2 (by omega)
  have hr1 : RefSt w1 base (S 2) := (hWh.ref 2 (by omega)).keepc (hWh.box 2 (by omega)) h1.turn
  have O1 := hide o1
  clear o1
  go_wp2_with fail
  refine (rall_st (S 2) base w1 hr1).mono ?_
  rintro e w2 ⟨v2, rfl, h2, o2⟩
  have O2 := hide o2
  clear o2
  go_wp2_with fail
  refine (same_eq v1 v2 (allL (S 2)) w2 (Rd.of_own (own_keepr O1.out hr1 h2.turn)) (Rd.of_own O2.out) hle).mono ?_
  rintro e w3 ⟨rfl, n3, e3⟩
  go_wp2_with fail
  go_ret
  exact done_one (k := n3) tW hWh (by omega) h1 h2 (key_all _) e3
set_option maxRecDepth 100000 in
set_option maxHeartbeats 1000000 in
theorem ei_act_0 (S : Nat → St) (base : Nat) (w : World) (h : Holds w base S) (hbase : base ≤ w.heap.size) (box n : Int) (s : ByteArray) (hbox : (wrap64 (box.tmod 3 + 3)).tmod 3 = 0) :
    Calls Try.prog 18 #[arrB S, arrR S, .agg #[.int .i64 3, .int .i64 box, .int .i64 n, .string s]] w (OnePost w base S) := by
  have hW : boxed w S 3 box n s = ((w.alloc (.cells #[.pointer (bp (S 0)), .pointer (bp (S 1)), .pointer (bp (S 2))] 42)).alloc (.cells #[.pointer (rp (S 0)), .pointer (rp (S 1)), .pointer (rp (S 2))] 44)).alloc (.cells #[.int .i64 3, .int .i64 box, .int .i64 n, .string s] 31) := rfl
  have HW := hide hW
  have tW := boxed_turn w S 3 box n s
  have fW := boxed_fr w S 3 box n s
  have hWh := h.turn tW
  have hbW : base ≤ (boxed w S 3 box n s).heap.size := Nat.le_trans hbase tW.size
  clear hW
  generalize boxed w S 3 box n s = W at *
  have HC1 := hide (h.cLt (i := 0) (by omega) (Nat.le_refl _))
  have HC2 := hide (h.cLt (i := 1) (by omega) (Nat.le_refl _))
  have HR1 := hide (h.rLt (i := 0) (by omega) (Nat.le_refl _))
  have HR2 := hide (h.rLt (i := 1) (by omega) (Nat.le_refl _))
  have f1 := fW.a 0 (by omega)
  have f2 := fW.a 1 (by omega)
  have hq1 : ((ei (S 0) (S 1)).v.toList == (ei (S 0) (S 1)).v.toList) = true := by simp
  have hq2 : ((ei (S 0) (S 1)).n == (ei (S 0) (S 1)).n) = true := by simp
  have hq3 : ((ei (S 0) (S 1)).e == (ei (S 0) (S 1)).e) = true := by simp
  go_enter Try.func18, Try.ntmps18
  go_wp2_with fail
  rw [← HW.out]
  go_region_held3 (fun w' => w'.cell? ⟨w.heap.size, 0, none⟩ = some (.pointer (bp (S 0))) ∧ w'.cell? ⟨w.heap.size, 1, none⟩ = some (.pointer (bp (S 1)))) (go_keep)
    (first | (go_at_call 19; refine (either_st (S 0) (S 1) _ (by exact hWh.box 0 (by omega)) (by exact hWh.box 1 (by omega)) (hWh.apart 0 1 (by omega) (by omega) (by omega))).mono ?_; rintro e w1 ⟨rfl, h1⟩; have h1' : BoxDo2 W (S 0) (S 1) (ei (S 0) (S 1)).x (ei (S 0) (S 1)).y w1 := ⟨h1.one, h1.two, ⟨h1.turn.os, h1.turn.tape, h1.turn.output, h1.turn.size, h1.turn.block⟩⟩; have fW1 := fW.keep h1'.turn (fun k hk => hk.elim (HC1.out k) (HC2.out k)); have g0 := fW1.a 0 (by omega); have g0' := fW1.a 1 (by omega); have g1 := fW1.r 0 (by omega); have g2 := fW1.r 1 (by omega)))
  have hr1 : RefSt w1 base (S 0) := (hWh.ref 0 (by omega)).keepc2 (hWh.box 0 (by omega)) (hWh.box 1 (by omega)) h1'.turn
  have hr2 : RefSt w1 base (S 1) := (hWh.ref 1 (by omega)).keepc2 (hWh.box 0 (by omega)) (hWh.box 1 (by omega)) h1'.turn
  have hb1 : base ≤ w1.heap.size := Nat.le_trans hbW h1'.turn.size
  clear f1 f2 g0 g0'
  go_wp2_with fail
  go_region_held3 (fun w' => w'.cell? ⟨w.heap.size + 1, 0, none⟩ = some (.pointer (rp (S 0))) ∧ w'.cell? ⟨w.heap.size + 1, 1, none⟩ = some (.pointer (rp (S 1)))) (go_keep)
    (first | (go_at_call 29; refine (reither_st (S 0) (S 1) base _ (by exact hr1) (by exact hr2) (hWh.apart 0 1 (by omega) (by omega) (by omega)) (by exact hb1)).mono ?_; rintro e w2 ⟨rfl, h2⟩; have h2' : RefDo2 w1 base (S 0) (S 1) (ei (S 0) (S 1)).x (ei (S 0) (S 1)).y w2 := ⟨h2.one, h2.two, ⟨h2.turn.os, h2.turn.tape, h2.turn.output, h2.turn.size, h2.turn.block⟩⟩; have fW2 := fW1.keep h2'.turn (fun k hk => hk.elim (HR1.out k) (HR2.out k)); have k1 := fW2.r 0 (by omega); have k2 := fW2.r 1 (by omega)))
  go_wp2_with fail
  go_ret
  exact done_two tW hWh (by omega) (by omega) (by omega) h1' h2' (key_ei _ _).1 (key_ei _ _).2
set_option maxRecDepth 100000 in
set_option maxHeartbeats 1000000 in
theorem ei_act_1 (S : Nat → St) (base : Nat) (w : World) (h : Holds w base S) (hbase : base ≤ w.heap.size) (box n : Int) (s : ByteArray) (hbox : (wrap64 (box.tmod 3 + 3)).tmod 3 = 1) :
    Calls Try.prog 18 #[arrB S, arrR S, .agg #[.int .i64 3, .int .i64 box, .int .i64 n, .string s]] w (OnePost w base S) := by
  have hW : boxed w S 3 box n s = ((w.alloc (.cells #[.pointer (bp (S 0)), .pointer (bp (S 1)), .pointer (bp (S 2))] 42)).alloc (.cells #[.pointer (rp (S 0)), .pointer (rp (S 1)), .pointer (rp (S 2))] 44)).alloc (.cells #[.int .i64 3, .int .i64 box, .int .i64 n, .string s] 31) := rfl
  have HW := hide hW
  have tW := boxed_turn w S 3 box n s
  have fW := boxed_fr w S 3 box n s
  have hWh := h.turn tW
  have hbW : base ≤ (boxed w S 3 box n s).heap.size := Nat.le_trans hbase tW.size
  clear hW
  generalize boxed w S 3 box n s = W at *
  have HC1 := hide (h.cLt (i := 1) (by omega) (Nat.le_refl _))
  have HC2 := hide (h.cLt (i := 2) (by omega) (Nat.le_refl _))
  have HR1 := hide (h.rLt (i := 1) (by omega) (Nat.le_refl _))
  have HR2 := hide (h.rLt (i := 2) (by omega) (Nat.le_refl _))
  have f1 := fW.a 1 (by omega)
  have f2 := fW.a 2 (by omega)
  have hq1 : ((ei (S 1) (S 2)).v.toList == (ei (S 1) (S 2)).v.toList) = true := by simp
  have hq2 : ((ei (S 1) (S 2)).n == (ei (S 1) (S 2)).n) = true := by simp
  have hq3 : ((ei (S 1) (S 2)).e == (ei (S 1) (S 2)).e) = true := by simp
  go_enter Try.func18, Try.ntmps18
  go_wp2_with fail
  rw [← HW.out]
  go_region_held3 (fun w' => w'.cell? ⟨w.heap.size, 1, none⟩ = some (.pointer (bp (S 1))) ∧ w'.cell? ⟨w.heap.size, 2, none⟩ = some (.pointer (bp (S 2)))) (go_keep)
    (first | (go_at_call 19; refine (either_st (S 1) (S 2) _ (by exact hWh.box 1 (by omega)) (by exact hWh.box 2 (by omega)) (hWh.apart 1 2 (by omega) (by omega) (by omega))).mono ?_; rintro e w1 ⟨rfl, h1⟩; have h1' : BoxDo2 W (S 1) (S 2) (ei (S 1) (S 2)).x (ei (S 1) (S 2)).y w1 := ⟨h1.one, h1.two, ⟨h1.turn.os, h1.turn.tape, h1.turn.output, h1.turn.size, h1.turn.block⟩⟩; have fW1 := fW.keep h1'.turn (fun k hk => hk.elim (HC1.out k) (HC2.out k)); have g0 := fW1.a 1 (by omega); have g0' := fW1.a 2 (by omega); have g1 := fW1.r 1 (by omega); have g2 := fW1.r 2 (by omega)))
  have hr1 : RefSt w1 base (S 1) := (hWh.ref 1 (by omega)).keepc2 (hWh.box 1 (by omega)) (hWh.box 2 (by omega)) h1'.turn
  have hr2 : RefSt w1 base (S 2) := (hWh.ref 2 (by omega)).keepc2 (hWh.box 1 (by omega)) (hWh.box 2 (by omega)) h1'.turn
  have hb1 : base ≤ w1.heap.size := Nat.le_trans hbW h1'.turn.size
  clear f1 f2 g0 g0'
  go_wp2_with fail
  go_region_held3 (fun w' => w'.cell? ⟨w.heap.size + 1, 1, none⟩ = some (.pointer (rp (S 1))) ∧ w'.cell? ⟨w.heap.size + 1, 2, none⟩ = some (.pointer (rp (S 2)))) (go_keep)
    (first | (go_at_call 29; refine (reither_st (S 1) (S 2) base _ (by exact hr1) (by exact hr2) (hWh.apart 1 2 (by omega) (by omega) (by omega)) (by exact hb1)).mono ?_; rintro e w2 ⟨rfl, h2⟩; have h2' : RefDo2 w1 base (S 1) (S 2) (ei (S 1) (S 2)).x (ei (S 1) (S 2)).y w2 := ⟨h2.one, h2.two, ⟨h2.turn.os, h2.turn.tape, h2.turn.output, h2.turn.size, h2.turn.block⟩⟩; have fW2 := fW1.keep h2'.turn (fun k hk => hk.elim (HR1.out k) (HR2.out k)); have k1 := fW2.r 1 (by omega); have k2 := fW2.r 2 (by omega)))
  go_wp2_with fail
  go_ret
  exact done_two tW hWh (by omega) (by omega) (by omega) h1' h2' (key_ei _ _).1 (key_ei _ _).2
set_option maxRecDepth 100000 in
set_option maxHeartbeats 1000000 in
theorem ei_act_2 (S : Nat → St) (base : Nat) (w : World) (h : Holds w base S) (hbase : base ≤ w.heap.size) (box n : Int) (s : ByteArray) (hbox : (wrap64 (box.tmod 3 + 3)).tmod 3 = 2) :
    Calls Try.prog 18 #[arrB S, arrR S, .agg #[.int .i64 3, .int .i64 box, .int .i64 n, .string s]] w (OnePost w base S) := by
  have hW : boxed w S 3 box n s = ((w.alloc (.cells #[.pointer (bp (S 0)), .pointer (bp (S 1)), .pointer (bp (S 2))] 42)).alloc (.cells #[.pointer (rp (S 0)), .pointer (rp (S 1)), .pointer (rp (S 2))] 44)).alloc (.cells #[.int .i64 3, .int .i64 box, .int .i64 n, .string s] 31) := rfl
  have HW := hide hW
  have tW := boxed_turn w S 3 box n s
  have fW := boxed_fr w S 3 box n s
  have hWh := h.turn tW
  have hbW : base ≤ (boxed w S 3 box n s).heap.size := Nat.le_trans hbase tW.size
  clear hW
  generalize boxed w S 3 box n s = W at *
  have HC1 := hide (h.cLt (i := 2) (by omega) (Nat.le_refl _))
  have HC2 := hide (h.cLt (i := 0) (by omega) (Nat.le_refl _))
  have HR1 := hide (h.rLt (i := 2) (by omega) (Nat.le_refl _))
  have HR2 := hide (h.rLt (i := 0) (by omega) (Nat.le_refl _))
  have f1 := fW.a 2 (by omega)
  have f2 := fW.a 0 (by omega)
  have hq1 : ((ei (S 2) (S 0)).v.toList == (ei (S 2) (S 0)).v.toList) = true := by simp
  have hq2 : ((ei (S 2) (S 0)).n == (ei (S 2) (S 0)).n) = true := by simp
  have hq3 : ((ei (S 2) (S 0)).e == (ei (S 2) (S 0)).e) = true := by simp
  go_enter Try.func18, Try.ntmps18
  go_wp2_with fail
  rw [← HW.out]
  go_region_held3 (fun w' => w'.cell? ⟨w.heap.size, 2, none⟩ = some (.pointer (bp (S 2))) ∧ w'.cell? ⟨w.heap.size, 0, none⟩ = some (.pointer (bp (S 0)))) (go_keep)
    (first | (go_at_call 19; refine (either_st (S 2) (S 0) _ (by exact hWh.box 2 (by omega)) (by exact hWh.box 0 (by omega)) (hWh.apart 2 0 (by omega) (by omega) (by omega))).mono ?_; rintro e w1 ⟨rfl, h1⟩; have h1' : BoxDo2 W (S 2) (S 0) (ei (S 2) (S 0)).x (ei (S 2) (S 0)).y w1 := ⟨h1.one, h1.two, ⟨h1.turn.os, h1.turn.tape, h1.turn.output, h1.turn.size, h1.turn.block⟩⟩; have fW1 := fW.keep h1'.turn (fun k hk => hk.elim (HC1.out k) (HC2.out k)); have g0 := fW1.a 2 (by omega); have g0' := fW1.a 0 (by omega); have g1 := fW1.r 2 (by omega); have g2 := fW1.r 0 (by omega)))
  have hr1 : RefSt w1 base (S 2) := (hWh.ref 2 (by omega)).keepc2 (hWh.box 2 (by omega)) (hWh.box 0 (by omega)) h1'.turn
  have hr2 : RefSt w1 base (S 0) := (hWh.ref 0 (by omega)).keepc2 (hWh.box 2 (by omega)) (hWh.box 0 (by omega)) h1'.turn
  have hb1 : base ≤ w1.heap.size := Nat.le_trans hbW h1'.turn.size
  clear f1 f2 g0 g0'
  go_wp2_with fail
  go_region_held3 (fun w' => w'.cell? ⟨w.heap.size + 1, 2, none⟩ = some (.pointer (rp (S 2))) ∧ w'.cell? ⟨w.heap.size + 1, 0, none⟩ = some (.pointer (rp (S 0)))) (go_keep)
    (first | (go_at_call 29; refine (reither_st (S 2) (S 0) base _ (by exact hr1) (by exact hr2) (hWh.apart 2 0 (by omega) (by omega) (by omega)) (by exact hb1)).mono ?_; rintro e w2 ⟨rfl, h2⟩; have h2' : RefDo2 w1 base (S 2) (S 0) (ei (S 2) (S 0)).x (ei (S 2) (S 0)).y w2 := ⟨h2.one, h2.two, ⟨h2.turn.os, h2.turn.tape, h2.turn.output, h2.turn.size, h2.turn.block⟩⟩; have fW2 := fW1.keep h2'.turn (fun k hk => hk.elim (HR1.out k) (HR2.out k)); have k1 := fW2.r 2 (by omega); have k2 := fW2.r 0 (by omega)))
  go_wp2_with fail
  go_ret
  exact done_two tW hWh (by omega) (by omega) (by omega) h1' h2' (key_ei _ _).1 (key_ei _ _).2
set_option maxRecDepth 100000 in
set_option maxHeartbeats 1000000 in
theorem mv_act_0 (S : Nat → St) (base : Nat) (w : World) (h : Holds w base S) (hbase : base ≤ w.heap.size) (box n : Int) (s : ByteArray) (hbox : (wrap64 (box.tmod 3 + 3)).tmod 3 = 0) :
    Calls Try.prog 18 #[arrB S, arrR S, .agg #[.int .i64 4, .int .i64 box, .int .i64 n, .string s]] w (OnePost w base S) := by
  have hW : boxed w S 4 box n s = ((w.alloc (.cells #[.pointer (bp (S 0)), .pointer (bp (S 1)), .pointer (bp (S 2))] 42)).alloc (.cells #[.pointer (rp (S 0)), .pointer (rp (S 1)), .pointer (rp (S 2))] 44)).alloc (.cells #[.int .i64 4, .int .i64 box, .int .i64 n, .string s] 31) := rfl
  have HW := hide hW
  have tW := boxed_turn w S 4 box n s
  have fW := boxed_fr w S 4 box n s
  have hWh := h.turn tW
  have hbW : base ≤ (boxed w S 4 box n s).heap.size := Nat.le_trans hbase tW.size
  clear hW
  generalize boxed w S 4 box n s = W at *
  have HC1 := hide (h.cLt (i := 0) (by omega) (Nat.le_refl _))
  have HC2 := hide (h.cLt (i := 1) (by omega) (Nat.le_refl _))
  have HR1 := hide (h.rLt (i := 0) (by omega) (Nat.le_refl _))
  have HR2 := hide (h.rLt (i := 1) (by omega) (Nat.le_refl _))
  have f1 := fW.a 0 (by omega)
  have f2 := fW.a 1 (by omega)
  have f3 := fW.x2
  go_enter Try.func18, Try.ntmps18
  go_wp2_with fail
  rw [← HW.out]
  go_region_held3 (fun w' => w'.cell? ⟨w.heap.size, 0, none⟩ = some (.pointer (bp (S 0))) ∧ w'.cell? ⟨w.heap.size, 1, none⟩ = some (.pointer (bp (S 1))) ∧ w'.cell? ⟨w.heap.size + 1 + 1, 2, none⟩ = some (.int .i64 n)) (go_keep)
    (first | (go_at_call 16; refine (move_st (S 0) (S 1) n _ (by exact hWh.box 0 (by omega)) (by exact hWh.box 1 (by omega)) (hWh.apart 0 1 (by omega) (by omega) (by omega))).mono ?_; rintro e w1 ⟨rfl, h1⟩; have h1' : BoxDo2 W (S 0) (S 1) (mvX (S 0) (S 1) n) (mvY (S 0) (S 1) n) w1 := ⟨h1.one, h1.two, ⟨h1.turn.os, h1.turn.tape, h1.turn.output, h1.turn.size, h1.turn.block⟩⟩; have fW1 := fW.keep h1'.turn (fun k hk => hk.elim (HC1.out k) (HC2.out k)); have g0 := fW1.a 0 (by omega); have g0' := fW1.a 1 (by omega); have g1 := fW1.r 0 (by omega); have g2 := fW1.r 1 (by omega); have g3 := fW1.x2))
  have hr1 : RefSt w1 base (S 0) := (hWh.ref 0 (by omega)).keepc2 (hWh.box 0 (by omega)) (hWh.box 1 (by omega)) h1'.turn
  have hr2 : RefSt w1 base (S 1) := (hWh.ref 1 (by omega)).keepc2 (hWh.box 0 (by omega)) (hWh.box 1 (by omega)) h1'.turn
  have hb1 : base ≤ w1.heap.size := Nat.le_trans hbW h1'.turn.size
  clear f1 f2 f3 g0 g0'
  go_wp2_with fail
  go_region_held3 (fun w' => w'.cell? ⟨w.heap.size + 1, 0, none⟩ = some (.pointer (rp (S 0))) ∧ w'.cell? ⟨w.heap.size + 1, 1, none⟩ = some (.pointer (rp (S 1))) ∧ w'.cell? ⟨w.heap.size + 1 + 1, 2, none⟩ = some (.int .i64 n)) (go_keep)
    (first | (go_at_call 30; refine (rmove_st (S 0) (S 1) n base _ (by exact hr1) (by exact hr2) (hWh.apart 0 1 (by omega) (by omega) (by omega)) (by exact hb1)).mono ?_; rintro e w2 ⟨rfl, h2⟩; have h2' : RefDo2 w1 base (S 0) (S 1) (mvX (S 0) (S 1) n) (mvY (S 0) (S 1) n) w2 := ⟨h2.one, h2.two, ⟨h2.turn.os, h2.turn.tape, h2.turn.output, h2.turn.size, h2.turn.block⟩⟩; have fW2 := fW1.keep h2'.turn (fun k hk => hk.elim (HR1.out k) (HR2.out k)); have k1 := fW2.r 0 (by omega); have k2 := fW2.r 1 (by omega); have k3 := fW2.x2))
  go_wp2_with fail
  go_ret
  have hq : (mvN (S 0) (S 1) n == mvN (S 0) (S 1) n) = true := by simp
  have hd := done_two tW hWh (by omega) (by omega) (by omega) h1' h2' (key_mvX _ _ _) (key_mvY _ _ _)
  simpa using hd
set_option maxRecDepth 100000 in
set_option maxHeartbeats 1000000 in
theorem mv_act_1 (S : Nat → St) (base : Nat) (w : World) (h : Holds w base S) (hbase : base ≤ w.heap.size) (box n : Int) (s : ByteArray) (hbox : (wrap64 (box.tmod 3 + 3)).tmod 3 = 1) :
    Calls Try.prog 18 #[arrB S, arrR S, .agg #[.int .i64 4, .int .i64 box, .int .i64 n, .string s]] w (OnePost w base S) := by
  have hW : boxed w S 4 box n s = ((w.alloc (.cells #[.pointer (bp (S 0)), .pointer (bp (S 1)), .pointer (bp (S 2))] 42)).alloc (.cells #[.pointer (rp (S 0)), .pointer (rp (S 1)), .pointer (rp (S 2))] 44)).alloc (.cells #[.int .i64 4, .int .i64 box, .int .i64 n, .string s] 31) := rfl
  have HW := hide hW
  have tW := boxed_turn w S 4 box n s
  have fW := boxed_fr w S 4 box n s
  have hWh := h.turn tW
  have hbW : base ≤ (boxed w S 4 box n s).heap.size := Nat.le_trans hbase tW.size
  clear hW
  generalize boxed w S 4 box n s = W at *
  have HC1 := hide (h.cLt (i := 1) (by omega) (Nat.le_refl _))
  have HC2 := hide (h.cLt (i := 2) (by omega) (Nat.le_refl _))
  have HR1 := hide (h.rLt (i := 1) (by omega) (Nat.le_refl _))
  have HR2 := hide (h.rLt (i := 2) (by omega) (Nat.le_refl _))
  have f1 := fW.a 1 (by omega)
  have f2 := fW.a 2 (by omega)
  have f3 := fW.x2
  go_enter Try.func18, Try.ntmps18
  go_wp2_with fail
  rw [← HW.out]
  go_region_held3 (fun w' => w'.cell? ⟨w.heap.size, 1, none⟩ = some (.pointer (bp (S 1))) ∧ w'.cell? ⟨w.heap.size, 2, none⟩ = some (.pointer (bp (S 2))) ∧ w'.cell? ⟨w.heap.size + 1 + 1, 2, none⟩ = some (.int .i64 n)) (go_keep)
    (first | (go_at_call 16; refine (move_st (S 1) (S 2) n _ (by exact hWh.box 1 (by omega)) (by exact hWh.box 2 (by omega)) (hWh.apart 1 2 (by omega) (by omega) (by omega))).mono ?_; rintro e w1 ⟨rfl, h1⟩; have h1' : BoxDo2 W (S 1) (S 2) (mvX (S 1) (S 2) n) (mvY (S 1) (S 2) n) w1 := ⟨h1.one, h1.two, ⟨h1.turn.os, h1.turn.tape, h1.turn.output, h1.turn.size, h1.turn.block⟩⟩; have fW1 := fW.keep h1'.turn (fun k hk => hk.elim (HC1.out k) (HC2.out k)); have g0 := fW1.a 1 (by omega); have g0' := fW1.a 2 (by omega); have g1 := fW1.r 1 (by omega); have g2 := fW1.r 2 (by omega); have g3 := fW1.x2))
  have hr1 : RefSt w1 base (S 1) := (hWh.ref 1 (by omega)).keepc2 (hWh.box 1 (by omega)) (hWh.box 2 (by omega)) h1'.turn
  have hr2 : RefSt w1 base (S 2) := (hWh.ref 2 (by omega)).keepc2 (hWh.box 1 (by omega)) (hWh.box 2 (by omega)) h1'.turn
  have hb1 : base ≤ w1.heap.size := Nat.le_trans hbW h1'.turn.size
  clear f1 f2 f3 g0 g0'
  go_wp2_with fail
  go_region_held3 (fun w' => w'.cell? ⟨w.heap.size + 1, 1, none⟩ = some (.pointer (rp (S 1))) ∧ w'.cell? ⟨w.heap.size + 1, 2, none⟩ = some (.pointer (rp (S 2))) ∧ w'.cell? ⟨w.heap.size + 1 + 1, 2, none⟩ = some (.int .i64 n)) (go_keep)
    (first | (go_at_call 30; refine (rmove_st (S 1) (S 2) n base _ (by exact hr1) (by exact hr2) (hWh.apart 1 2 (by omega) (by omega) (by omega)) (by exact hb1)).mono ?_; rintro e w2 ⟨rfl, h2⟩; have h2' : RefDo2 w1 base (S 1) (S 2) (mvX (S 1) (S 2) n) (mvY (S 1) (S 2) n) w2 := ⟨h2.one, h2.two, ⟨h2.turn.os, h2.turn.tape, h2.turn.output, h2.turn.size, h2.turn.block⟩⟩; have fW2 := fW1.keep h2'.turn (fun k hk => hk.elim (HR1.out k) (HR2.out k)); have k1 := fW2.r 1 (by omega); have k2 := fW2.r 2 (by omega); have k3 := fW2.x2))
  go_wp2_with fail
  go_ret
  have hq : (mvN (S 1) (S 2) n == mvN (S 1) (S 2) n) = true := by simp
  have hd := done_two tW hWh (by omega) (by omega) (by omega) h1' h2' (key_mvX _ _ _) (key_mvY _ _ _)
  simpa using hd
set_option maxRecDepth 100000 in
set_option maxHeartbeats 1000000 in
theorem mv_act_2 (S : Nat → St) (base : Nat) (w : World) (h : Holds w base S) (hbase : base ≤ w.heap.size) (box n : Int) (s : ByteArray) (hbox : (wrap64 (box.tmod 3 + 3)).tmod 3 = 2) :
    Calls Try.prog 18 #[arrB S, arrR S, .agg #[.int .i64 4, .int .i64 box, .int .i64 n, .string s]] w (OnePost w base S) := by
  have hW : boxed w S 4 box n s = ((w.alloc (.cells #[.pointer (bp (S 0)), .pointer (bp (S 1)), .pointer (bp (S 2))] 42)).alloc (.cells #[.pointer (rp (S 0)), .pointer (rp (S 1)), .pointer (rp (S 2))] 44)).alloc (.cells #[.int .i64 4, .int .i64 box, .int .i64 n, .string s] 31) := rfl
  have HW := hide hW
  have tW := boxed_turn w S 4 box n s
  have fW := boxed_fr w S 4 box n s
  have hWh := h.turn tW
  have hbW : base ≤ (boxed w S 4 box n s).heap.size := Nat.le_trans hbase tW.size
  clear hW
  generalize boxed w S 4 box n s = W at *
  have HC1 := hide (h.cLt (i := 2) (by omega) (Nat.le_refl _))
  have HC2 := hide (h.cLt (i := 0) (by omega) (Nat.le_refl _))
  have HR1 := hide (h.rLt (i := 2) (by omega) (Nat.le_refl _))
  have HR2 := hide (h.rLt (i := 0) (by omega) (Nat.le_refl _))
  have f1 := fW.a 2 (by omega)
  have f2 := fW.a 0 (by omega)
  have f3 := fW.x2
  go_enter Try.func18, Try.ntmps18
  go_wp2_with fail
  rw [← HW.out]
  go_region_held3 (fun w' => w'.cell? ⟨w.heap.size, 2, none⟩ = some (.pointer (bp (S 2))) ∧ w'.cell? ⟨w.heap.size, 0, none⟩ = some (.pointer (bp (S 0))) ∧ w'.cell? ⟨w.heap.size + 1 + 1, 2, none⟩ = some (.int .i64 n)) (go_keep)
    (first | (go_at_call 16; refine (move_st (S 2) (S 0) n _ (by exact hWh.box 2 (by omega)) (by exact hWh.box 0 (by omega)) (hWh.apart 2 0 (by omega) (by omega) (by omega))).mono ?_; rintro e w1 ⟨rfl, h1⟩; have h1' : BoxDo2 W (S 2) (S 0) (mvX (S 2) (S 0) n) (mvY (S 2) (S 0) n) w1 := ⟨h1.one, h1.two, ⟨h1.turn.os, h1.turn.tape, h1.turn.output, h1.turn.size, h1.turn.block⟩⟩; have fW1 := fW.keep h1'.turn (fun k hk => hk.elim (HC1.out k) (HC2.out k)); have g0 := fW1.a 2 (by omega); have g0' := fW1.a 0 (by omega); have g1 := fW1.r 2 (by omega); have g2 := fW1.r 0 (by omega); have g3 := fW1.x2))
  have hr1 : RefSt w1 base (S 2) := (hWh.ref 2 (by omega)).keepc2 (hWh.box 2 (by omega)) (hWh.box 0 (by omega)) h1'.turn
  have hr2 : RefSt w1 base (S 0) := (hWh.ref 0 (by omega)).keepc2 (hWh.box 2 (by omega)) (hWh.box 0 (by omega)) h1'.turn
  have hb1 : base ≤ w1.heap.size := Nat.le_trans hbW h1'.turn.size
  clear f1 f2 f3 g0 g0'
  go_wp2_with fail
  go_region_held3 (fun w' => w'.cell? ⟨w.heap.size + 1, 2, none⟩ = some (.pointer (rp (S 2))) ∧ w'.cell? ⟨w.heap.size + 1, 0, none⟩ = some (.pointer (rp (S 0))) ∧ w'.cell? ⟨w.heap.size + 1 + 1, 2, none⟩ = some (.int .i64 n)) (go_keep)
    (first | (go_at_call 30; refine (rmove_st (S 2) (S 0) n base _ (by exact hr1) (by exact hr2) (hWh.apart 2 0 (by omega) (by omega) (by omega)) (by exact hb1)).mono ?_; rintro e w2 ⟨rfl, h2⟩; have h2' : RefDo2 w1 base (S 2) (S 0) (mvX (S 2) (S 0) n) (mvY (S 2) (S 0) n) w2 := ⟨h2.one, h2.two, ⟨h2.turn.os, h2.turn.tape, h2.turn.output, h2.turn.size, h2.turn.block⟩⟩; have fW2 := fW1.keep h2'.turn (fun k hk => hk.elim (HR1.out k) (HR2.out k)); have k1 := fW2.r 2 (by omega); have k2 := fW2.r 0 (by omega); have k3 := fW2.x2))
  go_wp2_with fail
  go_ret
  have hq : (mvN (S 2) (S 0) n == mvN (S 2) (S 0) n) = true := by simp
  have hd := done_two tW hWh (by omega) (by omega) (by omega) h1' h2' (key_mvX _ _ _) (key_mvY _ _ _)
  simpa using hd
end Go.Proofs.Ytjgdmdjndkkckaa
