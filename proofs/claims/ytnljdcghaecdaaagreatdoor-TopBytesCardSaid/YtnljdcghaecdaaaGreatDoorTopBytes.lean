/-
  TopBytes: for every schema, every type, every two values and every two letters the closed statement returns true, and its arguments read as they did; the listed variables tied to the program's text. No condition.
-/
import Derived.Test.YtnljdcghaecdaaaGreatDoorSch
import Derived.LaidMore
import Derived.MakeChecks
import Derived.Test.YtnljdcghaecdaaaGreatDoorRows
import Derived.Test.YtnljdcghaecdaaaGreatDoorTop
import Derived.Test.YtnljdcghaecdaaaGreatDoorCards
import Derived.Test.YtnljdcghaecdaaaGreatDoorTie
import Derived.SevenTiedAt
import Derived.Stop.Joined
import Derived.JoinedOf
import Derived.Lay
import Derived.ProofKit
/-
  Arguments that came in: schemas, types, values, letters; the laid keywords. (Printed by mkrok.py.)
-/
namespace Go.Proofs.YtnljdcghaecdaaaGreatDoor
open Go Go.ChangeShapes Go.WideShapes Go.ChangeAt Go.RowKit

section
variable {H : Type} {enc : TypeId × Value → H} {P : Program}
/-- A slice among what came in, opened to the cells of its elements. -/
theorem rd_trod {α : Type} [Inhabited α] {w : World} {t e : TypeId} {C n : Nat} {cs : List Value} {y : DataW H × List MemPlace} {f : α → List Value} {q : α → Prop} (ht : P.underlying t = some (.slice e)) (hC : P.cellsOf e = C) (hC0 : 0 < C) (hf : ∀ x, (f x).length = C)
    (hel : ∀ n cs y, DataW.trod enc P w 0 (fun _ => true) true n e cs = some y → ∃ x, cs = f x ∧ q x)
    (h : DataW.trod enc P w 0 (fun _ => true) true n t cs = some y) :
    ∃ (v : Value) (l : List α), cs = [v] ∧ Rd w C v l.length (l.flatMap f) ∧ Capd v ∧ ∀ x ∈ l, q x := by
  rcases Go.Deep.open_slice ht h with ⟨hcs, _⟩ | ⟨a, len, cap, m, n, D, Pl, hcs, _, hl, hm, hmm, _, hx⟩
  · exact ⟨_, [], hcs, ⟨by simp, none, 0, rfl, fun _ => ⟨rfl, rfl⟩, fun h => by simp at h⟩, ⟨none, 0, 0, rfl, Nat.le_refl _⟩, by simp⟩
  · simp at hmm
    subst hmm
    rw [hC] at hx
    obtain ⟨X, hX⟩ := Go.Deep.choose_lt (α := α) (n := len) (p := fun i x => w.cells? 0 (a.add (i * C)) C = some (f x) ∧ q x) (fun i hi => by
      obtain ⟨cs', h1, h2⟩ := hx i (by omega)
      obtain ⟨x, rfl, hq⟩ := hel _ _ _ h2
      exact ⟨x, h1, hq⟩)
    refine ⟨_, (List.range len).map X, hcs, ?_, ⟨_, _, _, rfl, by omega⟩, ?_⟩
    · refine ⟨by rw [flat_length hf], some a, _, by simp; rfl, (fun h => by cases h), fun h0 => ?_⟩
      simp only [List.length_map, List.length_range] at h0
      obtain ⟨_, _, hc0⟩ := World.cells?_some (hX 0 h0).1
      have h00 := hc0 0 hC0
      obtain ⟨b, o, spot⟩ := a
      have hl0 : 0 < (f (X 0)).length := by rw [hf]; exact hC0
      have hspot : spot = none := by
        have h1 : w.cell? ((Addr.add ⟨b, o, spot⟩ (0 * C)).add 0) = some (f (X 0))[0] := h00.trans (List.getElem?_eq_getElem hl0)
        simpa [Addr.add] using World.cell?_spot h1
      subst hspot
      refine ⟨b, o, rfl, ?_, fun j u hj => ?_⟩
      · have h1 : w.cell? ⟨b, o, none⟩ = some (f (X 0))[0] := by
          have := h00.trans (List.getElem?_eq_getElem hl0)
          simpa [add_mk] using this
        exact World.block_lt_of_cell? w _ h1
      · have hjl : j < len * C := by
          have := (List.getElem?_eq_some_iff.1 hj).1
          rw [flat_length hf] at this
          simpa using this
        have hk : j / C < len := Nat.div_lt_of_lt_mul (by rw [Nat.mul_comm]; exact hjl)
        have hj' : j = j / C * C + j % C := by rw [Nat.mul_comm]; exact (Nat.div_add_mod j C).symm
        have hjm : j % C < C := Nat.mod_lt _ hC0
        obtain ⟨_, _, hc⟩ := World.cells?_some (hX (j / C) hk).1
        have h1 := hc (j % C) hjm
        have h2 := flat_at hf ((List.range len).map X) (j / C) (j % C) (by simpa using hk) hjm
        rw [← hj'] at h2
        rw [hj] at h2
        rw [add_mk, add_mk] at h1
        rw [show o + j = o + j / C * C + j % C by omega, h1]
        simpa using h2.symm
    · intro x hx'
      simp only [List.mem_map, List.mem_range] at hx'
      obtain ⟨i, hi, rfl⟩ := hx'
      exact (hX i hi).2
end

theorem oc2 : Tryz.prog.cellsOf 2 = 1 := by kernel_rfl
theorem oc3 : Tryz.prog.cellsOf 3 = 1 := by kernel_rfl
theorem oc4 : Tryz.prog.cellsOf 4 = 1 := by kernel_rfl
theorem oc5 : Tryz.prog.cellsOf 5 = 1 := by kernel_rfl
theorem oc9 : Tryz.prog.cellsOf 9 = 1 := by kernel_rfl
theorem oc22 : Tryz.prog.cellsOf 22 = 1 := by kernel_rfl
theorem oc23 : Tryz.prog.cellsOf 23 = 1 := by kernel_rfl
theorem oc24 : Tryz.prog.cellsOf 24 = 1 := by kernel_rfl
theorem oc26 : Tryz.prog.cellsOf 26 = 4 := by kernel_rfl
theorem oc27 : Tryz.prog.cellsOf 27 = 1 := by kernel_rfl
theorem oc29 : Tryz.prog.cellsOf 29 = 1 := by kernel_rfl
theorem oc30 : Tryz.prog.cellsOf 30 = 1 := by kernel_rfl
theorem oc32 : Tryz.prog.cellsOf 32 = 10 := by kernel_rfl
theorem oc44 : Tryz.prog.cellsOf 44 = 2 := by kernel_rfl
theorem oc46 : Tryz.prog.cellsOf 46 = 4 := by kernel_rfl
theorem oc59 : Tryz.prog.cellsOf 59 = 1 := by kernel_rfl
theorem oc61 : Tryz.prog.cellsOf 61 = 3 := by kernel_rfl
theorem oc63 : Tryz.prog.cellsOf 63 = 2 := by kernel_rfl
theorem oc81 : Tryz.prog.cellsOf 81 = 1 := by kernel_rfl
theorem oc83 : Tryz.prog.cellsOf 83 = 2 := by kernel_rfl
theorem oc85 : Tryz.prog.cellsOf 85 = 5 := by kernel_rfl
theorem oc86 : Tryz.prog.cellsOf 86 = 1 := by kernel_rfl
theorem oc88 : Tryz.prog.cellsOf 88 = 3 := by kernel_rfl
theorem oc90 : Tryz.prog.cellsOf 90 = 3 := by kernel_rfl
instance : Inhabited SortD := ⟨⟨0, .empty⟩⟩
instance : Inhabited FieldD := ⟨⟨.empty, [], .slice none 0 0⟩⟩
instance : Inhabited RecD := ⟨⟨.empty, false, [], .slice none 0 0⟩⟩
instance : Inhabited MethD := ⟨⟨.empty, .empty, 0, .empty, .empty⟩⟩
instance : Inhabited ServD := ⟨⟨.empty, [], .slice none 0 0⟩⟩
instance : Inhabited StepD := ⟨⟨.empty, .empty, 0⟩⟩
instance : Inhabited SagaD := ⟨⟨.empty, .empty, [], .slice none 0 0⟩⟩
instance : Inhabited NodeD := ⟨⟨0, 0, .empty, 0⟩⟩
section
variable {H : Type} {enc : TypeId × Value → H} {w : World}
set_option maxRecDepth 100000 in
theorem sort_of (n : Nat) (cs : List Value) (y : DataW H × List MemPlace) (h : DataW.trod enc Tryz.prog w 0 (fun _ => true) true n 44 cs = some y) : ∃ x : SortD, cs = sortc x ∧ True := by
  obtain ⟨ys, m, _, _, hlen, hyl, hf⟩ := DataW.trod_struct Tryz.underlying44 h
  rw [oc44] at hlen
  match cs, hlen, ys, hyl with
  | [a0, a1], _, [y0, y1], _ =>
    have f0 := hf 0 _ rfl
    have f1 := hf 1 _ rfl
    simp [oc5, oc9] at f0 f1
    obtain ⟨x0, e0, _, w0⟩ := DataW.trod_int Tryz.underlying5 f0
    obtain ⟨x1, e1, _, _⟩ := DataW.trod_string Tryz.underlying9 f1
    simp at e0 e1
    subst e0 e1
    exact ⟨⟨x0, x1⟩, rfl, trivial⟩
theorem sorts_of {n : Nat} {cs : List Value} {y : DataW H × List MemPlace} (h : DataW.trod enc Tryz.prog w 0 (fun _ => true) true n 27 cs = some y) : ∃ (v : Value) (l : List SortD), cs = [v] ∧ SortsAt w v l := by
  obtain ⟨v, l, e, r, c, q⟩ := rd_trod (f := sortc) (q := fun x => True) Tryz.underlying27 oc44 (by omega) (fun _ => rfl) (fun n cs y h => sort_of n cs y h) h
  exact ⟨v, l, e, r, c⟩
set_option maxRecDepth 100000 in
theorem field_of (n : Nat) (cs : List Value) (y : DataW H × List MemPlace) (h : DataW.trod enc Tryz.prog w 0 (fun _ => true) true n 63 cs = some y) : ∃ x : FieldD, cs = fieldc x ∧ SortsAt w x.tv x.ts := by
  obtain ⟨ys, m, _, _, hlen, hyl, hf⟩ := DataW.trod_struct Tryz.underlying63 h
  rw [oc63] at hlen
  match cs, hlen, ys, hyl with
  | [a0, a1], _, [y0, y1], _ =>
    have f0 := hf 0 _ rfl
    have f1 := hf 1 _ rfl
    simp [oc9, oc27] at f0 f1
    obtain ⟨x0, e0, _, _⟩ := DataW.trod_string Tryz.underlying9 f0
    obtain ⟨x1, l1, e1, r1⟩ := sorts_of f1
    simp at e0 e1
    subst e0 e1
    exact ⟨⟨x0, l1, a1⟩, rfl, r1⟩
theorem fields_of {n : Nat} {cs : List Value} {y : DataW H × List MemPlace} (h : DataW.trod enc Tryz.prog w 0 (fun _ => true) true n 59 cs = some y) : ∃ (v : Value) (l : List FieldD), cs = [v] ∧ FieldsAt w v l := by
  obtain ⟨v, l, e, r, c, q⟩ := rd_trod (f := fieldc) (q := fun x => SortsAt w x.tv x.ts) Tryz.underlying59 oc63 (by omega) (fun _ => rfl) (fun n cs y h => field_of n cs y h) h
  exact ⟨v, l, e, r, q⟩
set_option maxRecDepth 100000 in
theorem rec_of (n : Nat) (cs : List Value) (y : DataW H × List MemPlace) (h : DataW.trod enc Tryz.prog w 0 (fun _ => true) true n 61 cs = some y) : ∃ x : RecD, cs = recc x ∧ FieldsAt w x.fv x.fs := by
  obtain ⟨ys, m, _, _, hlen, hyl, hf⟩ := DataW.trod_struct Tryz.underlying61 h
  rw [oc61] at hlen
  match cs, hlen, ys, hyl with
  | [a0, a1, a2], _, [y0, y1, y2], _ =>
    have f0 := hf 0 _ rfl
    have f1 := hf 1 _ rfl
    have f2 := hf 2 _ rfl
    simp [oc4, oc9, oc59] at f0 f1 f2
    obtain ⟨x0, e0, _, _⟩ := DataW.trod_string Tryz.underlying9 f0
    obtain ⟨x1, e1, _⟩ := DataW.trod_bool Tryz.underlying4 f1
    obtain ⟨x2, l2, e2, r2⟩ := fields_of f2
    simp at e0 e1 e2
    subst e0 e1 e2
    exact ⟨⟨x0, x1, l2, a2⟩, rfl, r2⟩
theorem recs_of {n : Nat} {cs : List Value} {y : DataW H × List MemPlace} (h : DataW.trod enc Tryz.prog w 0 (fun _ => true) true n 22 cs = some y) : ∃ (v : Value) (l : List RecD), cs = [v] ∧ RecsAt w v l := by
  obtain ⟨v, l, e, r, c, q⟩ := rd_trod (f := recc) (q := fun x => FieldsAt w x.fv x.fs) Tryz.underlying22 oc61 (by omega) (fun _ => rfl) (fun n cs y h => rec_of n cs y h) h
  exact ⟨v, l, e, r, q⟩
set_option maxRecDepth 100000 in
theorem meth_of (n : Nat) (cs : List Value) (y : DataW H × List MemPlace) (h : DataW.trod enc Tryz.prog w 0 (fun _ => true) true n 85 cs = some y) : ∃ x : MethD, cs = methc x ∧ True := by
  obtain ⟨ys, m, _, _, hlen, hyl, hf⟩ := DataW.trod_struct Tryz.underlying85 h
  rw [oc85] at hlen
  match cs, hlen, ys, hyl with
  | [a0, a1, a2, a3, a4], _, [y0, y1, y2, y3, y4], _ =>
    have f0 := hf 0 _ rfl
    have f1 := hf 1 _ rfl
    have f2 := hf 2 _ rfl
    have f3 := hf 3 _ rfl
    have f4 := hf 4 _ rfl
    simp [oc5, oc9] at f0 f1 f2 f3 f4
    obtain ⟨x0, e0, _, _⟩ := DataW.trod_string Tryz.underlying9 f0
    obtain ⟨x1, e1, _, _⟩ := DataW.trod_string Tryz.underlying9 f1
    obtain ⟨x2, e2, _, w2⟩ := DataW.trod_int Tryz.underlying5 f2
    obtain ⟨x3, e3, _, _⟩ := DataW.trod_string Tryz.underlying9 f3
    obtain ⟨x4, e4, _, _⟩ := DataW.trod_string Tryz.underlying9 f4
    simp at e0 e1 e2 e3 e4
    subst e0 e1 e2 e3 e4
    exact ⟨⟨x0, x1, x2, x3, x4⟩, rfl, trivial⟩
theorem meths_of {n : Nat} {cs : List Value} {y : DataW H × List MemPlace} (h : DataW.trod enc Tryz.prog w 0 (fun _ => true) true n 81 cs = some y) : ∃ (v : Value) (l : List MethD), cs = [v] ∧ MethsAt w v l := by
  obtain ⟨v, l, e, r, c, q⟩ := rd_trod (f := methc) (q := fun x => True) Tryz.underlying81 oc85 (by omega) (fun _ => rfl) (fun n cs y h => meth_of n cs y h) h
  exact ⟨v, l, e, r⟩
set_option maxRecDepth 100000 in
theorem serv_of (n : Nat) (cs : List Value) (y : DataW H × List MemPlace) (h : DataW.trod enc Tryz.prog w 0 (fun _ => true) true n 83 cs = some y) : ∃ x : ServD, cs = servc x ∧ MethsAt w x.mv x.ms := by
  obtain ⟨ys, m, _, _, hlen, hyl, hf⟩ := DataW.trod_struct Tryz.underlying83 h
  rw [oc83] at hlen
  match cs, hlen, ys, hyl with
  | [a0, a1], _, [y0, y1], _ =>
    have f0 := hf 0 _ rfl
    have f1 := hf 1 _ rfl
    simp [oc9, oc81] at f0 f1
    obtain ⟨x0, e0, _, _⟩ := DataW.trod_string Tryz.underlying9 f0
    obtain ⟨x1, l1, e1, r1⟩ := meths_of f1
    simp at e0 e1
    subst e0 e1
    exact ⟨⟨x0, l1, a1⟩, rfl, r1⟩
theorem servs_of {n : Nat} {cs : List Value} {y : DataW H × List MemPlace} (h : DataW.trod enc Tryz.prog w 0 (fun _ => true) true n 23 cs = some y) : ∃ (v : Value) (l : List ServD), cs = [v] ∧ ServsAt w v l := by
  obtain ⟨v, l, e, r, c, q⟩ := rd_trod (f := servc) (q := fun x => MethsAt w x.mv x.ms) Tryz.underlying23 oc83 (by omega) (fun _ => rfl) (fun n cs y h => serv_of n cs y h) h
  exact ⟨v, l, e, r, q⟩
set_option maxRecDepth 100000 in
theorem step_of (n : Nat) (cs : List Value) (y : DataW H × List MemPlace) (h : DataW.trod enc Tryz.prog w 0 (fun _ => true) true n 90 cs = some y) : ∃ x : StepD, cs = stepc x ∧ True := by
  obtain ⟨ys, m, _, _, hlen, hyl, hf⟩ := DataW.trod_struct Tryz.underlying90 h
  rw [oc90] at hlen
  match cs, hlen, ys, hyl with
  | [a0, a1, a2], _, [y0, y1, y2], _ =>
    have f0 := hf 0 _ rfl
    have f1 := hf 1 _ rfl
    have f2 := hf 2 _ rfl
    simp [oc3, oc9] at f0 f1 f2
    obtain ⟨x0, e0, _, _⟩ := DataW.trod_string Tryz.underlying9 f0
    obtain ⟨x1, e1, _, _⟩ := DataW.trod_string Tryz.underlying9 f1
    obtain ⟨x2, e2, _, w2⟩ := DataW.trod_int Tryz.underlying3 f2
    simp at e0 e1 e2
    subst e0 e1 e2
    exact ⟨⟨x0, x1, x2⟩, rfl, trivial⟩
theorem steps_of {n : Nat} {cs : List Value} {y : DataW H × List MemPlace} (h : DataW.trod enc Tryz.prog w 0 (fun _ => true) true n 86 cs = some y) : ∃ (v : Value) (l : List StepD), cs = [v] ∧ StepsAt w v l := by
  obtain ⟨v, l, e, r, c, q⟩ := rd_trod (f := stepc) (q := fun x => True) Tryz.underlying86 oc90 (by omega) (fun _ => rfl) (fun n cs y h => step_of n cs y h) h
  exact ⟨v, l, e, r⟩
set_option maxRecDepth 100000 in
theorem saga_of (n : Nat) (cs : List Value) (y : DataW H × List MemPlace) (h : DataW.trod enc Tryz.prog w 0 (fun _ => true) true n 88 cs = some y) : ∃ x : SagaD, cs = sagac x ∧ StepsAt w x.sv x.ss := by
  obtain ⟨ys, m, _, _, hlen, hyl, hf⟩ := DataW.trod_struct Tryz.underlying88 h
  rw [oc88] at hlen
  match cs, hlen, ys, hyl with
  | [a0, a1, a2], _, [y0, y1, y2], _ =>
    have f0 := hf 0 _ rfl
    have f1 := hf 1 _ rfl
    have f2 := hf 2 _ rfl
    simp [oc9, oc86] at f0 f1 f2
    obtain ⟨x0, e0, _, _⟩ := DataW.trod_string Tryz.underlying9 f0
    obtain ⟨x1, e1, _, _⟩ := DataW.trod_string Tryz.underlying9 f1
    obtain ⟨x2, l2, e2, r2⟩ := steps_of f2
    simp at e0 e1 e2
    subst e0 e1 e2
    exact ⟨⟨x0, x1, l2, a2⟩, rfl, r2⟩
theorem sagas_of {n : Nat} {cs : List Value} {y : DataW H × List MemPlace} (h : DataW.trod enc Tryz.prog w 0 (fun _ => true) true n 24 cs = some y) : ∃ (v : Value) (l : List SagaD), cs = [v] ∧ SagasAt w v l := by
  obtain ⟨v, l, e, r, c, q⟩ := rd_trod (f := sagac) (q := fun x => StepsAt w x.sv x.ss) Tryz.underlying24 oc88 (by omega) (fun _ => rfl) (fun n cs y h => saga_of n cs y h) h
  exact ⟨v, l, e, r, q⟩
set_option maxRecDepth 100000 in
theorem node_of (n : Nat) (cs : List Value) (y : DataW H × List MemPlace) (h : DataW.trod enc Tryz.prog w 0 (fun _ => true) true n 46 cs = some y) : ∃ x : NodeD, cs = nodec x ∧ (-9223372036854775808 ≤ x.num ∧ x.num ≤ 9223372036854775807) ∧ -9223372036854775808 ≤ x.kids ∧ x.kids ≤ 9223372036854775807 := by
  obtain ⟨ys, m, _, _, hlen, hyl, hf⟩ := DataW.trod_struct Tryz.underlying46 h
  rw [oc46] at hlen
  match cs, hlen, ys, hyl with
  | [a0, a1, a2, a3], _, [y0, y1, y2, y3], _ =>
    have f0 := hf 0 _ rfl
    have f1 := hf 1 _ rfl
    have f2 := hf 2 _ rfl
    have f3 := hf 3 _ rfl
    simp [oc2, oc3, oc5, oc9] at f0 f1 f2 f3
    obtain ⟨x0, e0, _, w0⟩ := DataW.trod_int Tryz.underlying5 f0
    obtain ⟨x1, e1, _, w1⟩ := DataW.trod_int Tryz.underlying2 f1
    obtain ⟨x2, e2, _, _⟩ := DataW.trod_string Tryz.underlying9 f2
    obtain ⟨x3, e3, _, w3⟩ := DataW.trod_int Tryz.underlying3 f3
    simp at e0 e1 e2 e3
    subst e0 e1 e2 e3
    exact ⟨⟨x0, x1, x2, x3⟩, rfl, bounds_i64 w1, bounds_i64 w3⟩
theorem nodes_came {n : Nat} {cs : List Value} {y : DataW H × List MemPlace} (h : DataW.trod enc Tryz.prog w 0 (fun _ => true) true n 29 cs = some y) : ∃ (v : Value) (l : List NodeD), cs = [v] ∧ NodesAt w v l ∧ ∀ x ∈ l, (-9223372036854775808 ≤ x.num ∧ x.num ≤ 9223372036854775807) ∧ -9223372036854775808 ≤ x.kids ∧ x.kids ≤ 9223372036854775807 := by
  obtain ⟨v, l, e, r, c, q⟩ := rd_trod (f := nodec) (q := fun x => (-9223372036854775808 ≤ x.num ∧ x.num ≤ 9223372036854775807) ∧ -9223372036854775808 ≤ x.kids ∧ x.kids ≤ 9223372036854775807) Tryz.underlying29 oc46 (by omega) (fun _ => rfl) (fun n cs y h => node_of n cs y h) h
  exact ⟨v, l, e, r, q⟩
set_option maxRecDepth 100000 in
theorem sorts_arg {v : Value} {d : DataW H} {p : List MemPlace} {r : Reach} {base : Nat} (hv : Value.okWide Tryz.prog w r base 27 v) (h : DataW.Trod enc Tryz.prog w 0 (fun _ => true) true 27 v d p) : ∃ l : List SortD, SortsAt w v l := by
  obtain ⟨a, len, cap, rfl⟩ := okWide_slice Tryz.underlying27 hv
  obtain ⟨fuel, hf⟩ := h
  obtain ⟨v, l, e, hl⟩ := sorts_of hf
  simp [Value.cells] at e
  subst e
  exact ⟨l, hl⟩
set_option maxRecDepth 100000 in
theorem nodes_arg {v : Value} {d : DataW H} {p : List MemPlace} {r : Reach} {base : Nat} (hv : Value.okWide Tryz.prog w r base 29 v) (h : DataW.Trod enc Tryz.prog w 0 (fun _ => true) true 29 v d p) : ∃ l : List NodeD, NodesAt w v l ∧ ∀ x ∈ l, (-9223372036854775808 ≤ x.num ∧ x.num ≤ 9223372036854775807) ∧ -9223372036854775808 ≤ x.kids ∧ x.kids ≤ 9223372036854775807 := by
  obtain ⟨a, len, cap, rfl⟩ := okWide_slice Tryz.underlying29 hv
  obtain ⟨fuel, hf⟩ := h
  obtain ⟨v, l, e, hl⟩ := nodes_came hf
  simp [Value.cells] at e
  subst e
  exact ⟨l, hl⟩
set_option maxRecDepth 100000 in
theorem sch_arg {v : Value} {d : DataW H} {p : List MemPlace} {r : Reach} {base : Nat} (hv : Value.okWide Tryz.prog w r base 26 v) (h : DataW.Trod enc Tryz.prog w 0 (fun _ => true) true 26 v d p) : ∃ s : SchD, v = schv s ∧ SchAt w s := by
  obtain ⟨av, rfl, hsz⟩ := okWide_struct Tryz.underlying26 hv
  obtain ⟨av⟩ := av
  rw [oc26] at hsz
  obtain ⟨fuel, h⟩ := h
  obtain ⟨ys, m, _, _, hlen, hyl, hf⟩ := DataW.trod_struct Tryz.underlying26 h
  simp only [Value.cells] at hlen hf
  match av, hsz, ys, hyl with
  | [a0, a1, a2, a3], _, [y0, y1, y2, y3], _ =>
    have f0 := hf 0 _ rfl
    have f1 := hf 1 _ rfl
    have f2 := hf 2 _ rfl
    have f3 := hf 3 _ rfl
    simp [oc9, oc22, oc23, oc24] at f0 f1 f2 f3
    obtain ⟨x0, e0, _, _⟩ := DataW.trod_string Tryz.underlying9 f0
    obtain ⟨x1, l1, e1, r1⟩ := recs_of f1
    obtain ⟨x2, l2, e2, r2⟩ := servs_of f2
    obtain ⟨x3, l3, e3, r3⟩ := sagas_of f3
    simp at e0 e1 e2 e3
    subst e0 e1 e2 e3
    exact ⟨⟨x0, l1, a1, l2, a2, l3, a3⟩, rfl, ⟨r1, r2, r3⟩⟩
set_option maxRecDepth 100000 in
theorem let_arg {v : Value} {d : DataW H} {p : List MemPlace} {r : Reach} {base : Nat} (hv : Value.okWide Tryz.prog w r base 32 v) (h : DataW.Trod enc Tryz.prog w 0 (fun _ => true) true 32 v d p) : ∃ l : Letr, v = lagg l ∧ l.seq < 18446744073709551616 ∧ l.print < 18446744073709551616 := by
  obtain ⟨av, rfl, hsz⟩ := okWide_struct Tryz.underlying32 hv
  obtain ⟨av⟩ := av
  rw [oc32] at hsz
  obtain ⟨fuel, h⟩ := h
  obtain ⟨ys, m, _, _, hlen, hyl, hf⟩ := DataW.trod_struct Tryz.underlying32 h
  simp only [Value.cells] at hlen hf
  match av, hsz, ys, hyl with
  | [a0, a1, a2, a3, a4, a5, a6, a7, a8, a9], _, [y0, y1, y2, y3, y4, y5, y6, y7, y8, y9], _ =>
    have f0 := hf 0 _ rfl
    have f1 := hf 1 _ rfl
    have f2 := hf 2 _ rfl
    have f3 := hf 3 _ rfl
    have f4 := hf 4 _ rfl
    have f5 := hf 5 _ rfl
    have f6 := hf 6 _ rfl
    have f7 := hf 7 _ rfl
    have f8 := hf 8 _ rfl
    have f9 := hf 9 _ rfl
    simp [oc3, oc5, oc9, oc30] at f0 f1 f2 f3 f4 f5 f6 f7 f8 f9
    obtain ⟨x0, e0, _, w0⟩ := DataW.trod_int Tryz.underlying5 f0
    obtain ⟨x1, e1, _, w1⟩ := DataW.trod_int Tryz.underlying3 f1
    obtain ⟨x2, e2, _, w2⟩ := DataW.trod_int Tryz.underlying3 f2
    obtain ⟨x3, e3, _, w3⟩ := DataW.trod_int Tryz.underlying30 f3
    obtain ⟨x4, e4, _, _⟩ := DataW.trod_string Tryz.underlying9 f4
    obtain ⟨x5, e5, _, w5⟩ := DataW.trod_int Tryz.underlying30 f5
    obtain ⟨x6, e6, _, _⟩ := DataW.trod_string Tryz.underlying9 f6
    obtain ⟨x7, e7, _, _⟩ := DataW.trod_string Tryz.underlying9 f7
    obtain ⟨x8, e8, _, w8⟩ := DataW.trod_int Tryz.underlying3 f8
    obtain ⟨x9, e9, _, _⟩ := DataW.trod_string Tryz.underlying9 f9
    simp at e0 e1 e2 e3 e4 e5 e6 e7 e8 e9
    subst e0 e1 e2 e3 e4 e5 e6 e7 e8 e9
    have b3 := bounds_u64 w3
    have b5 := bounds_u64 w5
    refine ⟨⟨x0, x1, x2, x3.toNat, x4, x5.toNat, x6, x7, x8, x9⟩, ?_, by simp only; omega, by simp only; omega⟩
    have e3 : ((x3.toNat : Nat) : Int) = x3 := Int.toNat_of_nonneg b3.1
    have e5 : ((x5.toNat : Nat) : Int) = x5 := Int.toNat_of_nonneg b5.1
    simp only [lagg, e3, e5]
end
end Go.Proofs.YtnljdcghaecdaaaGreatDoor
/-
  The laid keywords lie where they were laid.
-/
namespace Go.Proofs.YtnljdcghaecdaaaGreatDoor
open Go Go.ChangeShapes Go.WideShapes Go.ChangeAt Go.RowKit

section
variable {H : Type} {enc : TypeId × Value → H} {P : Program} {w : World} {base : Nat} {sp : Nat → Bool} {held : Bool}
/-- An array of strings that reads as known bytes. -/
theorem strs_trod {t e : TypeId} {n fuel : Nat} {cs : List Value} {bs : List (List UInt8)} {p : List MemPlace} (ht : P.underlying t = some (.array n e)) (he : P.underlying e = some .string) (hc : P.cellsOf e = 1)
    (h : DataW.trod enc P w base sp held fuel t cs = some (.agg (bs.map fun b => DataW.lit (Lit.string b)), p)) : ∀ (i : Nat) (b : List UInt8), bs[i]? = some b → cs[i]? = some (Value.string ⟨b.toArray⟩) := by
  obtain ⟨xs, m, _, hx, _, hn, hel⟩ := DataW.trod_array ht h
  intro i b hb
  simp only [Prod.mk.injEq, DataW.agg.injEq] at hx
  obtain ⟨hx, _⟩ := hx
  have hi : i < n := by
    have h1 := (List.getElem?_eq_some_iff.1 hb).1
    have h2 := congrArg List.length hx
    simp at h2
    omega
  have h1 := hel i hi
  have h2 : (xs[i]?).map (·.1) = some (.lit (.string b)) := by
    have := congrArg (fun l => l[i]?) hx
    simp only [List.getElem?_map, hb, Option.map_some] at this
    exact this.symm
  obtain ⟨y, hy, hy1⟩ := Option.map_eq_some_iff.1 h2
  rw [hy, hc, Nat.mul_one] at h1
  obtain ⟨s, e1, e2, _⟩ := DataW.trod_string he h1
  have e3 : s.data.toList = b := by
    rw [e2] at hy1
    simpa using hy1
  have e4 := congrArg (fun l => l[0]?) e1
  simp at e4
  rw [e4, ← e3]
end
theorem kw_global : Tryz.prog.globalNamed "redress/token.keywords" = some 0 := by kernel_rfl
theorem kw_type : (Tryz.prog.globals[0]?).map (·.type) = some 151 := by kernel_rfl
theorem kw_array : Tryz.prog.underlying 151 = some (.array 17 9) := by kernel_rfl
theorem kw_one : Tryz.prog.cellsOf 9 = 1 := by kernel_rfl
def kwb : List (List UInt8) := [[109, 111, 100, 117, 108, 101], [114, 101, 99, 111, 114, 100], [99, 104, 111, 105, 99, 101], [115, 101, 114, 118, 105, 99, 101], [115, 97, 103, 97], [100, 111], [97, 116], [117, 110, 100, 111], [103, 105, 118, 101], [116, 97, 107, 101], [110, 111, 116, 101], [110, 111, 110, 101], [98, 111, 111, 108], [105, 110, 116], [116, 101, 120, 116], [108, 105, 115, 116], [111, 112, 116]]
theorem kw_bytes : keywords = kwb.map fun b => ⟨b.toArray⟩ := by kernel_rfl
set_option maxRecDepth 100000 in
theorem kw_laid {W : World} (h : laidMetH Tryz.prog Rows.topBytesRow.laid W) : Kw W := by
  rw [MakeChecks.laidMetH_plain _ _ _ (by kernel_rfl)] at h
  obtain ⟨ps, ⟨_, _, _, _, _, _, _, _, _, _, ⟨_, _, _, _, _, _, _, _, _, _, ⟨_, _, _, _, _, _, _, _, _, _, ⟨g, t, cs, f, p, q, hg, ht, hv, hd, _, _⟩, _⟩, _⟩, _⟩, _, _⟩ := h
  obtain rfl := Option.some.inj (kw_global.symm.trans hg)
  obtain rfl := Option.some.inj (kw_type.symm.trans ht)
  have hcell : ∀ (i : Nat) (b : List UInt8), kwb[i]? = some b → W.cell? ⟨0, i, none⟩ = some (.string ⟨b.toArray⟩) := fun i b hb => by
    rw [World.var?_cell hg hv i]
    have := strs_trod kw_array Tryz.underlying9 kw_one (bs := kwb) hd i b hb
    simpa using this
  refine ⟨by kernel_rfl, _, _, rfl, (fun h => by cases h), fun _ => ⟨0, 0, rfl, ?_, ?_⟩⟩
  · exact World.block_lt_of_cell? W _ (hcell 0 _ rfl)
  · intro j u hj
    have e : keywords.flatMap sc = kwb.map fun b => Value.string ⟨b.toArray⟩ := by
      rw [kw_bytes, List.flatMap_map]
      exact List.map_eq_flatMap.symm
    rw [e, List.getElem?_map] at hj
    obtain ⟨b, hb, rfl⟩ := Option.map_eq_some_iff.1 hj
    rw [Nat.zero_add]
    exact hcell j b hb
end Go.Proofs.YtnljdcghaecdaaaGreatDoor
namespace Go.Proofs.YtnljdcghaecdaaaGreatDoor
open Go Go.ChangeShapes Go.WideShapes Go.ChangeAt Go.RowKit

set_option maxRecDepth 100000 in
/-- A start that meets the condition. -/
theorem laid_met (os : Os) (args : Array Value) : laidMetH Tryz.prog Rows.topBytesRow.laid ((World.laidAll Tryz.prog os Rows.topBytesRow.laid).forCall (fun _ _ => 0) ⟨#[], args, []⟩).memory := by
  rw [MakeChecks.laidMetH_plain _ _ _ (by kernel_rfl)]
  exact laidMet_laidAll args (by kernel_rfl) (by kernel_rfl)
set_option maxRecDepth 100000 in
theorem top_lifted (os : Os) (started : os.Started) (H : Type) (enc : TypeId × Value → H) :
    ReturnsInHanded {} Tryz.checked os 3 .any (fun w args => (Rows.topBytesSpec.pre enc Tryz.prog Tryz.f3 [] false w args ∧ laidMetH Tryz.prog Rows.topBytesRow.laid w) ∧ sizedMet enc Tryz.prog Tryz.f3 (OpenSpec.ofChange Rows.topBytesSpec) false w args)
      (Rows.topBytesSpec.post enc Tryz.prog Tryz.f3 false true false false) := by
  refine returnsInHanded_of_change_and (C := Tryz.checked) (X := fun w _ => laidMetH Tryz.prog Rows.topBytesRow.laid w) (fun _ _ _ hh h => h.of_heap hh) (show ownKnob Tryz.prog.godebug = none by kernel_rfl) started (by kernel_rfl) Tryz.func3
    (ChangeSpec.witness_shaped (enc := enc) (C := Tryz.checked) (os := os) (X := fun w _ => laidMetH Tryz.prog Rows.topBytesRow.laid w) false (World.laidAll Tryz.prog os Rows.topBytesRow.laid)
      #[.agg #[.string .empty, .slice none 0 0, .slice none 0 0, .slice none 0 0], .slice none 0 0, .slice none 0 0, .slice none 0 0, .agg #[.int .u8 0, .int .i64 0, .int .i64 0, .int .u64 0, .string .empty, .int .u64 0, .string .empty, .string .empty, .int .i64 0, .string .empty], .agg #[.int .u8 0, .int .i64 0, .int .i64 0, .int .u64 0, .string .empty, .int .u64 0, .string .empty, .string .empty, .int .i64 0, .string .empty]]
      8 (World.laidAll_os _ _ _) (World.shaped_of_ZipB (by kernel_rfl) (by kernel_rfl)) (by kernel_rfl) (by kernel_rfl) (by kernel_rfl) (laid_met os _)) ?_
  intro W base args ds gs before hval0 hW _ _ hL _
  have hval : ∀ (j : Nat) t v, Tryz.f3.params[j]? = some t → args[j]? = some v → Value.okWide Tryz.prog W .any base t v := hval0
  have hW' := hW
  obtain ⟨p, q, hA0, hV, rfl, hfz, hnd⟩ := hW
  have hA : DataW.TrodAll enc Tryz.prog W 0 (fun _ => true) true Tryz.f3.params.toList args.toList ds p := hA0
  rw [Tryz.params3] at hA hval
  obtain ⟨v0, vs0, d0, ds0, p0, q0, hargs, rfl, rfl, h0, r0⟩ := trodAll_cons hA
  obtain ⟨v1, vs1, d1, ds1, p1, q1, rfl, rfl, rfl, h1, r1⟩ := trodAll_cons r0
  obtain ⟨v2, vs2, d2, ds2, p2, q2, rfl, rfl, rfl, h2, r2⟩ := trodAll_cons r1
  obtain ⟨v3, vs3, d3, ds3, p3, q3, rfl, rfl, rfl, h3, r3⟩ := trodAll_cons r2
  obtain ⟨v4, vs4, d4, ds4, p4, q4, rfl, rfl, rfl, h4, r4⟩ := trodAll_cons r3
  obtain ⟨v5, vs5, d5, ds5, p5, q5, rfl, rfl, rfl, h5, r5⟩ := trodAll_cons r4
  obtain ⟨rfl, rfl, rfl⟩ := trodAll_nil r5
  obtain rfl : args = #[v0, v1, v2, v3, v4, v5] := by cases args; simp_all
  obtain ⟨s, rfl, hs⟩ := sch_arg (hval 0 26 v0 rfl rfl) h0
  obtain ⟨ts, ht⟩ := sorts_arg (hval 1 27 v1 rfl rfl) h1
  obtain ⟨ns, hn, hin⟩ := nodes_arg (hval 2 29 v2 rfl rfl) h2
  obtain ⟨ms, hm, him⟩ := nodes_arg (hval 3 29 v3 rfl rfl) h3
  obtain ⟨l, rfl, l1, l2⟩ := let_arg (hval 4 32 v4 rfl rfl) h4
  obtain ⟨k, rfl, k1, k2⟩ := let_arg (hval 5 32 v5 rfl rfl) h5
  refine (top_any s v1 v2 v3 ts ns ms l k W hs ht hn hm (kw_laid hL) hin him l1 l2 k1 k2).mono fun e W' ⟨he, bel⟩ => ?_
  subst he
  exact ⟨_, rfl, law_post (show laidOutB Tryz.prog = true by kernel_rfl) (by rw [Tryz.params3]; intro t ht; simp at ht; rcases ht with rfl | rfl | rfl | rfl <;> exact ⟨by kernel_rfl, of_decide_eq_true (by kernel_rfl)⟩) rfl rfl rfl Tryz.underlying4 hW' (bel.below (Nat.le_refl _) (fun _ h => h.elim))⟩

theorem top_over : Rows.TopBytesSaid :=
  OpenClaim.holds_of_wide 3 Tryz.f3 rfl rfl rfl rfl rfl rfl rfl ⟨rfl, rfl, rfl, rfl, rfl⟩ rfl rfl rfl rfl rfl (by kernel_rfl) Tryz.func3 (by kernel_rfl)
    (of_decide_eq_true (by kernel_rfl)) (by unfold Func.isWrapper; first | (rw [if_pos (by decide +kernel)]; kernel_rfl) | (rw [if_neg (by decide +kernel)]; exact ⟨rfl, rfl⟩))
    (fun os started H enc _ => top_lifted os started H enc)

theorem topBytes_holds : Rows.TopBytesCardSaid :=
  Claim7.holds_tied_plain_at .later [] [.data, .data, .data, .widerDeep] true (true, "d17b01f475e0c5be6aefb00c6d55ff69b777f3b9c7db8433f026e3335f917e78") false
    top_over (fun _ h => by cases h) (by kernel_rfl) (fun _ h => by cases h) topBytes_row_tie rfl ⟨rfl, rfl⟩ (by kernel_rfl) rfl
    (fun f fn hf hfn => by
      obtain rfl : f = 3 := Option.some.inj ((show Tryz.prog.funcNamed "redress/redresstop.TopBytes" = some 3 by kernel_rfl).symm.trans hf) |>.symm
      obtain rfl : fn = Tryz.f3 := (Option.some.inj (Tryz.func3.symm.trans hfn)).symm
      exact ⟨by kernel_rfl, fun j t ht => by
        rw [Tryz.params3] at ht
        have hm : t ∈ [26, 27, 29, 29, 32, 32] := by simpa using Array.mem_of_getElem? ht
        have hall : ([26, 27, 29, 29, 32, 32].all fun u => !Tryz.prog.wantsStandIn u) = true := by kernel_rfl
        exact (show Tryz.prog.wantsStandIn t = false by simpa using List.all_eq_true.1 hall t hm)⟩)
    (by kernel_rfl)
end Go.Proofs.YtnljdcghaecdaaaGreatDoor
