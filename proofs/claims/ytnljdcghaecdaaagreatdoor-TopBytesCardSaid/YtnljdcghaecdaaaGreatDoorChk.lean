/-
  A fault's box; parts' names; what is contrary.
-/
import Derived.Test.YtnljdcghaecdaaaGreatDoorGreat15
import Derived.Test.YtnljdcghaecdaaaGreatDoorShelf
import Derived.Maps.OwnSet
namespace Go.Proofs.YtnljdcghaecdaaaGreatDoor
open Go.RowKit Go.Lib Go.Maps
attribute [local go_sem] Oper.semAt_some

/-- A fault's box: is all right till now? -/
def flt (fb : Nat) (ok : Bool) : Thing where
  is w := ∃ x e, (ok = false → e ≠ 0) ∧ w.heap[fb]? = some (.cells #[.bool (!ok), .string x, .int .i64 e] 143 (0, 0))
  foot _ k := k = fb
  lt := fun ⟨_, _, _, h⟩ e => e ▸ (Array.getElem?_eq_some_iff.1 h).1
  stay := fun ⟨x, e, h1, h⟩ hk => ⟨⟨x, e, h1, (hk fb rfl).trans h⟩, fun _ h => h⟩
theorem set_blk {w : World} {b : Nat} {cs : Array Value} {ty : TypeId} {fz : Nat × Nat} (h : w.heap[b]? = some (.cells cs ty fz)) (i : Nat) (v : Value) : (w.setCell ⟨b, i, none⟩ v).heap[b]? = some (.cells (cs.setIfInBounds i v) ty fz) := by


  simp [World.setCell, Array.getElem?_modify, h]
theorem set_self {α : Type} {l : List α} {n : Nat} {x : α} (h : l[n]? = some x) : l.set n x = l := by
  obtain ⟨hn, rfl⟩ := List.getElem?_eq_some_iff.1 h
  exact List.set_getElem_self hn
def BadE (e : Int) : Prop := e ≠ 0
abbrev vd : Ending := .returned (.tuple #[])
section
variable {B : Nat} {w0 w : World} {ts : List Thing} {fb : Nat} {ok : Bool}
set_option maxRecDepth 100000 in
theorem at_any (r : Bool) (x : ByteArray) (e : Int) (he : BadE e) (n : Nat) (hn : ts[n]? = some (flt fb ok)) (h : Lie B w0 w ts) :
    Calls Tryz.prog 97 #[.pointer (some ⟨fb, 0, none⟩), .bool r, .string x, .int .i64 e] w fun en w' => en = vd ∧ Hid (Lie B w0 w' (ts.set n (flt fb (ok && r)))) := by
  have H := hide h
  obtain ⟨y, e0, h0, hb⟩ := h.get n hn
  have HNN := hide hn
  have HE := hide he
  have H0 := hide h0
  have HB := hide hb
  clear he h0 h hn
  obtain ⟨c0, c1, c2⟩ := cell3 hb
  have f0 : w.frozen? ⟨fb, 0, none⟩ = false := by simp [World.frozen?, hb]
  have f1 : w.frozen? ⟨fb, 1, none⟩ = false := by simp [World.frozen?, hb]
  have f2 : w.frozen? ⟨fb, 2, none⟩ = false := by simp [World.frozen?, hb]
  cases r with
  | true =>
    clear hb
    go_enter Tryz.func97, Tryz.ntmps97
    go_wp2_with fail
    first | refine bodyPost_ret (results_none rfl _ _ _) rfl ?_ | go_end0
    exact ⟨rfl, by rw [Bool.and_true, set_self HNN.out]; exact H⟩
  | false =>
    cases ok with
    | false =>
      clear hb
      go_enter Tryz.func97, Tryz.ntmps97
      go_wp2_with fail
      first | refine bodyPost_ret (results_none rfl _ _ _) rfl ?_ | go_end0
      exact ⟨rfl, by show Hid (Lie B w0 w (ts.set n (flt fb false))); rw [set_self HNN.out]; exact H⟩
    | true =>
      clear hb
      go_enter Tryz.func97, Tryz.ntmps97
      go_wp2_with fail
      first | refine bodyPost_ret (results_none rfl _ _ _) rfl ?_ | go_end0
      refine ⟨rfl, hide ?_⟩
      have T : Turn (fun k => k = fb) w (((w.setCell ⟨fb, 0, none⟩ (.bool true)).setCell ⟨fb, 1, none⟩ (.string x)).setCell ⟨fb, 2, none⟩ (.int .i64 e)) := (((Turn.refl (fun k => k = fb) w).setCell (p := ⟨fb, 0, none⟩) (fun _ => rfl) (.bool true)).setCell (p := ⟨fb, 1, none⟩) (fun _ => rfl) (.string x)).setCell (p := ⟨fb, 2, none⟩) (fun _ => rfl) (.int .i64 e)
      refine H.out.step (t := flt fb true) (t' := flt fb (true && false)) n HNN.out T ⟨x, e, fun _ => HE.out, ?_⟩ (fun k hk => .inl hk)
      rw [set_blk (set_blk (set_blk HB.out 0 _) 1 _) 2 _]
      rfl
end
set_option maxRecDepth 100000 in
theorem part_any (x y : ByteArray) (w : World) (hx : x.size ≤ 100000) (hy : y.size ≤ 100000) : Calls Tryz.prog 100 #[.string x, .string y] w fun en w' => (∃ z, en = .returned (.string z)) ∧ w' = w := by
  have e1 : x.size + 1 ≤ 9223372036854775807 := by omega
  have e2 : x.size + 1 + y.size ≤ 9223372036854775807 := by omega
  go_enter Tryz.func100, Tryz.ntmps100
  go_wp2_with fail
  go_ret
  exact ⟨⟨_, rfl⟩, rfl⟩
end Go.Proofs.YtnljdcghaecdaaaGreatDoor
