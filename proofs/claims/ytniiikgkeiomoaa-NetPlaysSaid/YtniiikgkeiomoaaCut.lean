/-
  The map of ways that are cut, as a function on two numbers.
-/
import Derived.Test.YtniiikgkeiomoaaChecked
import Derived.Test.YtniiikgkeiomoaaKit
import Derived.Maps.OwnSet
import Derived.DeepKeys4
namespace Go.Proofs.Ytniiikgkeiomoaa
open Go.RowKit Go.Maps

theorem own : ownKnob Try.prog.godebug = none := by kernel_rfl
theorem laidOut : laidOutB Try.prog = true := by kernel_rfl
theorem keyed55 : Keyed Try.prog 55 := Keyed.of_law (deep_law_laid laidOut (m := 5) (by omega) (of_decide_eq_true (by kernel_rfl)) (by kernel_rfl) (by kernel_rfl))
theorem keyType55 : Try.prog.keyType 55 = true := by kernel_rfl
theorem cells55 : Try.prog.cellsOf 55 = 2 := by kernel_rfl
theorem cells3 : Try.prog.cellsOf 3 = 1 := by kernel_rfl
theorem types86 : Try.prog.types.size + 1 = 85 + 2 := by kernel_rfl
theorem lits3 (d : Nat) (a : Int) (ha : (Lit.int .i64 a).wf = true) : Try.prog.keyLits (d + 1) 3 [.int .i64 a] = some [.int .i64 a] := by
  simp [Program.keyLits, Try.underlying3, ha]
theorem key55 (a b : Int) (ha : (Lit.int .i64 a).wf = true) (hb : (Lit.int .i64 b).wf = true) : ∃ kl, keyOf Try.prog 55 (.agg #[.int .i64 a, .int .i64 b]) = some kl := by
  unfold keyOf
  rw [Try.underlying55, types86]
  simp only [keyType55, Bool.true_and]
  rw [if_pos (by simp [Value.formed, Try.underlying55, cells55])]
  unfold Program.keyLits
  rw [Try.underlying55]
  have e : (Value.agg #[Value.int IntKind.i64 a, Value.int IntKind.i64 b]).cells.toList = [.int .i64 a, .int .i64 b] := rfl
  rw [e]
  simp [cells55, cells3, lits3, ha, hb]
theorem zero53 (w : World) : (zeroValue 53).run Try.prog w = .ok (.agg #[]) w := by kernel_rfl

/-- The ways that are cut: of two numbers (the lesser first), whether they are there; and how many entries there are at most. -/
structure Cuts where
  n : Nat
  f : Int → Int → Bool
def Cuts.none : Cuts := ⟨0, fun _ _ => false⟩
def Cuts.set (C : Cuts) (a b : Int) (on : Bool) : Cuts := ⟨C.n + 1, fun x y => if x = a ∧ y = b then on else C.f x y⟩
/-- Block m is the map of the ways that are cut: C tells of two numbers (the lesser first) whether they are there. -/
def CutMap (w : World) (m : Nat) (C : Cuts) : Prop :=
  ∃ (n : Nat) (D : DataW Unit), n ≤ C.n ∧ w.ownsMap Try.prog 55 unitElem m n D ∧ ∀ a b kl, keyOf Try.prog 55 (.agg #[.int .i64 a, .int .i64 b]) = some kl → Maps.has D kl = C.f a b

section
variable {w w' : World} {m : Nat} {C : Cuts}
theorem CutMap.lt (h : CutMap w m C) : m < w.heap.size := by
  obtain ⟨n, D, _, h1, _⟩ := h
  exact h1.lt
theorem CutMap.isMap (h : CutMap w m C) : ∃ es cl, w.heap[m]? = some (.map es cl) := by
  obtain ⟨n, D, _, ⟨es, cl, h1, _⟩, _⟩ := h
  exact ⟨es, cl, h1⟩
theorem CutMap.block (h : CutMap w m C) (hb : w'.heap[m]? = w.heap[m]?) : CutMap w' m C := by
  obtain ⟨n, D, hn, ⟨es, cl, h1, h2⟩, h3⟩ := h
  exact ⟨n, D, hn, ⟨es, cl, hb.trans h1, h2⟩, h3⟩
theorem CutMap.turn {S : Nat → Prop} (h : CutMap w m C) (t : Turn S w w') (hm : ¬ S m) : CutMap w' m C := h.block (t.block m h.lt hm)
theorem CutMap.made (w : World) : CutMap (w.alloc (.map #[] 0)) w.heap.size Cuts.none :=
  ⟨0, .map [], Nat.le_refl _, World.ownsMap_made _ _ _ _, fun _ _ _ _ => rfl⟩
theorem CutMap.look (h : CutMap w m C) (a b : Int) (ha : (Lit.int .i64 a).wf = true) (hb : (Lit.int .i64 b).wf = true) :
    (Instr.lookup 48 (.map (some m)) (.agg #[.int .i64 a, .int .i64 b]) true).run Try.prog w = .ok (.tuple #[.agg #[], .bool (C.f a b)]) w := by
  obtain ⟨n, D, _, h1, h2⟩ := h
  obtain ⟨kl, hk⟩ := key55 a b ha hb
  obtain ⟨v, ps, hr, hv⟩ := h1.look_ok keyed55 Try.underlying48 (zero53 w) unitElem_mk hk
  obtain ⟨rfl, _⟩ := unitElem_inv hv
  rw [hr, h2 a b kl hk]
end
end Go.Proofs.Ytniiikgkeiomoaa
