/-
  Things that lie in memory side by side: what one says stays while another one turns. No program in sight.
-/
import Derived.Test.YtnljdcghaecdaaaGreatDoorKit
namespace Go.Proofs.YtnljdcghaecdaaaGreatDoor
open Go.RowKit

/-- A thing in memory: what is said of the world, and the blocks that it lies in. -/
structure Thing where
  is : World → Prop
  foot : World → Nat → Prop
  lt : ∀ {w : World} {k : Nat}, is w → foot w k → k < w.heap.size
  stay : ∀ {w w' : World}, is w → (∀ k, foot w k → w'.heap[k]? = w.heap[k]?) → is w' ∧ ∀ k, foot w' k → foot w k

def box (b : Nat) (o : Obj) : Thing where
  is w := w.heap[b]? = some o
  foot _ k := k = b
  lt := fun h e => e ▸ (Array.getElem?_eq_some_iff.1 h).1
  stay := fun h e => ⟨(e b rfl).trans h, fun _ h => h⟩

theorem ownsRow_block {w w' : World} {base : Nat} {e : TypeId} {size : Nat} {v : Value} {n : Nat} {xs : List Value} (h : w.ownsRow base e size v n xs) (hb : ∀ k, v.ownBlock = some k → w'.heap[k]? = w.heap[k]?) : w'.ownsRow base e size v n xs := by
  obtain ⟨h1, h2⟩ := h
  refine ⟨h1, ?_⟩
  rcases h2 with h2 | ⟨g, cap, cur, hv, hg, hh, r⟩
  · exact .inl h2
  · exact .inr ⟨g, cap, cur, hv, hg, (hb g (by rw [hv]; rfl)).trans hh, r⟩
def row (base : Nat) (e : TypeId) (size : Nat) (v : Value) (n : Nat) (xs : List Value) : Thing where
  is w := w.ownsRow base e size v n xs
  foot _ k := v.ownBlock = some k
  lt := fun h e => (ownsRow_base h e).2
  stay := fun h e => ⟨ownsRow_block h e, fun _ h => h⟩

/-- These things lie in w, each in blocks of its own, from base on; below base all is as in w0. -/
structure Lie (base : Nat) (w0 w : World) (ts : List Thing) : Prop where
  le : base ≤ w0.heap.size
  below : Below base w0 w
  all : ∀ (i : Nat) (t : Thing), ts[i]? = some t → t.is w
  high : ∀ (i : Nat) (t : Thing), ts[i]? = some t → ∀ k, t.foot w k → base ≤ k
  apart : ∀ (i j : Nat) (a b : Thing), i ≠ j → ts[i]? = some a → ts[j]? = some b → ∀ k, a.foot w k → ¬ b.foot w k

section
variable {base : Nat} {w0 w w' : World} {ts us : List Thing} {t t' : Thing}
theorem Lie.start (w : World) : Lie w.heap.size w w [] :=
  ⟨Nat.le_refl _, Below.refl _ _, by simp, by simp, by simp⟩
theorem Lie.base_le (h : Lie base w0 w ts) : base ≤ w.heap.size := Nat.le_trans h.le h.below.size
theorem Lie.get (h : Lie base w0 w ts) (n : Nat) (hn : ts[n]? = some t) : t.is w := h.all n t hn
/-- All of them stay where none of their blocks turns. -/
theorem Lie.beside (h : Lie base w0 w ts) {S : Nat → Prop} (T : Turn S w w') (hS : ∀ k, k < w.heap.size → S k → base ≤ k) (hd : ∀ (i : Nat) (t : Thing), ts[i]? = some t → ∀ k, t.foot w k → ¬ S k) : Lie base w0 w' ts := by
  have hst : ∀ (i : Nat) (t : Thing), ts[i]? = some t → t.is w' ∧ ∀ k, t.foot w' k → t.foot w k := fun i t ht =>
    t.stay (h.all i t ht) (fun k hk => T.block k (t.lt (h.all i t ht) hk) (hd i t ht k hk))
  refine ⟨h.le, h.below.trans ⟨T.os, T.tape, T.output, T.size, fun k hk => ?_⟩, fun i t ht => (hst i t ht).1, fun i t ht k hk => h.high i t ht k ((hst i t ht).2 k hk),
    fun i j a b hij ha hb k hk hk2 => h.apart i j a b hij ha hb k ((hst i a ha).2 k hk) ((hst j b hb).2 k hk2)⟩
  have hb := h.base_le
  exact T.block k (by omega) (fun hs => by have := hS k (by omega) hs; omega)
theorem Lie.stay (h : Lie base w0 w ts) (T : Turn (fun _ => False) w w') : Lie base w0 w' ts := h.beside T (fun _ _ h => h.elim) (fun _ _ _ _ _ h => h)
theorem Lie.skip (h : Lie base w0 w ts) (o : Obj) : Lie base w0 (w.alloc o) ts := h.stay ((Turn.refl _ w).alloc o)
theorem Lie.drewN (h : Lie base w0 w ts) (n : Nat) : Lie base w0 (w.drewN n) ts := h.stay ((Turn.refl _ w).drewN n)
theorem Lie.drew (h : Lie base w0 w ts) : Lie base w0 w.drew ts := h.stay (Turn.refl _ w).drew
/-- One of them turns. -/
theorem Lie.step (h : Lie base w0 w ts) (n : Nat) (hn : ts[n]? = some t) (T : Turn (t.foot w) w w') (h' : t'.is w') (hf : ∀ k, t'.foot w' k → t.foot w k ∨ w.heap.size ≤ k) : Lie base w0 w' (ts.set n t') := by
  have hb := h.base_le
  have hst : ∀ (i : Nat) (u : Thing), i ≠ n → ts[i]? = some u → u.is w' ∧ ∀ k, u.foot w' k → u.foot w k := fun i u hi hu =>
    u.stay (h.all i u hu) (fun k hk => T.block k (u.lt (h.all i u hu) hk) (fun h2 => h.apart i n u t hi hu hn k hk h2))
  have key : ∀ (i : Nat) (u : Thing), (ts.set n t')[i]? = some u → (i = n ∧ u = t') ∨ (i ≠ n ∧ ts[i]? = some u) := by
    intro i u hu
    rw [List.getElem?_set] at hu
    by_cases e : n = i
    · rw [if_pos e] at hu
      split at hu
      · exact .inl ⟨e.symm, by injection hu with hu; exact hu.symm⟩
      · cases hu
    · rw [if_neg e] at hu
      exact .inr ⟨fun e2 => e e2.symm, hu⟩
  have hft : ∀ k, t'.foot w' k → base ≤ k := fun k hk => by
    rcases hf k hk with h1 | h1
    · exact h.high n t hn k h1
    · omega
  refine ⟨h.le, h.below.trans ⟨T.os, T.tape, T.output, T.size, fun k hk => T.block k (by omega) (fun h2 => by have := h.high n t hn k h2; omega)⟩, fun i u hu => ?_, fun i u hu k hk => ?_, fun i j a b hij ha hb2 k hk hk2 => ?_⟩
  · rcases key i u hu with ⟨_, rfl⟩ | ⟨hi, hu⟩
    · exact h'
    · exact (hst i u hi hu).1
  · rcases key i u hu with ⟨_, rfl⟩ | ⟨hi, hu⟩
    · exact hft k hk
    · exact h.high i u hu k ((hst i u hi hu).2 k hk)
  · have aux : ∀ (i : Nat) (u : Thing), i ≠ n → ts[i]? = some u → u.foot w' k → ¬ t'.foot w' k := fun i u hi hu h1 h2 => by
      have h3 := (hst i u hi hu).2 k h1
      rcases hf k h2 with h4 | h4
      · exact h.apart i n u t hi hu hn k h3 h4
      · have := u.lt (h.all i u hu) h3; omega
    rcases key i a ha with ⟨e1, rfl⟩ | ⟨hi, hu⟩ <;> rcases key j b hb2 with ⟨e2, rfl⟩ | ⟨hj, hv⟩
    · omega
    · exact aux j b hj hv hk2 hk
    · exact aux i a hi hu hk hk2
    · exact h.apart i j a b hij hu hv k ((hst i a hi hu).2 k hk) ((hst j b hj hv).2 k hk2)
/-- A new one beside them. -/
theorem Lie.push (h : Lie base w0 w ts) (T : Turn (fun _ => False) w w') (h' : t.is w') (hf : ∀ k, t.foot w' k → w.heap.size ≤ k) : Lie base w0 w' (t :: ts) := by
  have h2 := h.stay T
  have hb := h.base_le
  have hst : ∀ (i : Nat) (u : Thing), ts[i]? = some u → ∀ k, u.foot w' k → u.foot w k := fun i u hu =>
    (u.stay (h.all i u hu) (fun k hk => T.block k (u.lt (h.all i u hu) hk) (fun h => h))).2
  have aux : ∀ (i : Nat) (u : Thing) (k : Nat), ts[i]? = some u → u.foot w' k → ¬ t.foot w' k := fun i u k hu h1 h2 => by
    have := u.lt (h.all i u hu) (hst i u hu k h1)
    have := hf k h2
    omega
  refine ⟨h2.le, h2.below, fun i u hu => ?_, fun i u hu k hk => ?_, fun i j a b hij ha hb2 k hk hk2 => ?_⟩
  · cases i with
    | zero => simp at hu; exact hu ▸ h'
    | succ i => exact h2.all i u (by simpa using hu)
  · cases i with
    | zero => simp at hu; subst hu; have := hf k hk; omega
    | succ i => exact h2.high i u (by simpa using hu) k hk
  · cases i with
    | zero =>
      cases j with
      | zero => omega
      | succ j => simp at ha; subst ha; exact aux j b k (by simpa using hb2) hk2 hk
    | succ i =>
      cases j with
      | zero => simp at hb2; subst hb2; exact aux i a k (by simpa using ha) hk hk2
      | succ j => exact h2.apart i j a b (by omega) (by simpa using ha) (by simpa using hb2) k hk hk2
theorem Lie.alloc (h : Lie base w0 w ts) (o : Obj) : Lie base w0 (w.alloc o) (box w.heap.size o :: ts) :=
  h.push ((Turn.refl _ w).alloc o) (heap_alloc_new w o) (fun _ hk => Nat.le_of_eq hk.symm)
theorem Lie.pop (h : Lie base w0 w (t :: ts)) : Lie base w0 w ts :=
  ⟨h.le, h.below, fun i u hu => h.all (i + 1) u (by simpa using hu), fun i u hu => h.high (i + 1) u (by simpa using hu), fun i j a b hij ha hb => h.apart (i + 1) (j + 1) a b (by omega) (by simpa using ha) (by simpa using hb)⟩
/-- Some of them, in another order. -/
theorem Lie.pick (h : Lie base w0 w ts) (f : Nat → Nat) (hf : ∀ i j, i < us.length → j < us.length → f i = f j → i = j) (hu : ∀ (i : Nat) (u : Thing), us[i]? = some u → ts[f i]? = some u) : Lie base w0 w us :=
  ⟨h.le, h.below, fun i u e => h.all (f i) u (hu i u e), fun i u e => h.high (f i) u (hu i u e), fun i j a b hij ha hb => h.apart (f i) (f j) a b
    (fun e => hij (hf i j (List.getElem?_eq_some_iff.1 ha).1 (List.getElem?_eq_some_iff.1 hb).1 e)) (hu i a ha) (hu j b hb)⟩
theorem Lie.drop1 (h : Lie base w0 w (t :: t' :: ts)) : Lie base w0 w (t :: ts) :=
  h.pick (fun i => if i = 0 then 0 else i + 1) (fun i j _ _ e => by split at e <;> split at e <;> omega) (fun i u hu => by cases i <;> simpa using hu)
theorem Lie.swap (h : Lie base w0 w (t :: t' :: ts)) : Lie base w0 w (t' :: t :: ts) :=
  h.pick (fun i => if i = 0 then 1 else if i = 1 then 0 else i) (fun i j _ _ e => by by_cases h1 : i = 0 <;> by_cases h2 : j = 0 <;> by_cases h3 : i = 1 <;> by_cases h4 : j = 1 <;> simp [h1, h2, h3, h4] at e <;> omega)
    (fun i u hu => by
      match i with
      | 0 => simpa using hu
      | 1 => simpa using hu
      | i + 2 => simpa using hu)
theorem Lie.erase (h : Lie base w0 w ts) (n : Nat) : Lie base w0 w (ts.eraseIdx n) :=
  h.pick (fun i => if i < n then i else i + 1) (fun i j _ _ e => by split at e <;> split at e <;> omega) (fun i u hu => by
    rw [List.getElem?_eraseIdx] at hu

    split at hu <;> rename_i hi
    · rw [if_pos hi]; exact hu
    · rw [if_neg hi]; exact hu)
theorem Lie.setBox (h : Lie base w0 w ts) (n : Nat) {b : Nat} {cs : Array Value} {ty : TypeId} {fz : Nat × Nat} (hn : ts[n]? = some (box b (.cells cs ty fz))) (i : Nat) (v : Value) :
    Lie base w0 (w.setCell ⟨b, i, none⟩ v) (ts.set n (box b (.cells (cs.setIfInBounds i v) ty fz))) := by
  have h1 : w.heap[b]? = some (.cells cs ty fz) := h.get n hn
  refine h.step n hn ((Turn.refl (· = b) w).setCell (p := ⟨b, i, none⟩) (fun _ => rfl) v) ?_ (fun k hk => .inl hk)
  show (w.setCell ⟨b, i, none⟩ v).heap[b]? = _
  simp [World.setCell, Array.getElem?_modify, h1]
end

/-- The cells of a box. -/
theorem box_cell {w : World} {b : Nat} {cs : Array Value} {ty : TypeId} (h : w.heap[b]? = some (.cells cs ty (0, 0))) (i : Nat) : w.cell? ⟨b, i, none⟩ = cs[i]? ∧ w.frozen? ⟨b, i, none⟩ = false := by
  simp [World.cell?, World.frozen?, h]
theorem box_lt {w : World} {b : Nat} {o : Obj} (h : w.heap[b]? = some o) : b < w.heap.size := (Array.getElem?_eq_some_iff.1 h).1
end Go.Proofs.YtnljdcghaecdaaaGreatDoor
