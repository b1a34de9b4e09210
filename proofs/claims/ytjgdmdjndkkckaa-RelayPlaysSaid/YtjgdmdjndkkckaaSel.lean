/-
  A select of one case with a default, in a lone goroutine, as a rule beside the walk's own: 'wpN' is the walk's 'Code.wp' for an ordinary call's frame. No program in sight.
-/
import Derived.WalkKit
import Derived.Conc.LoneSelect
namespace Go.Proofs.Ytjgdmdjndkkckaa
open Go.Conc Go.RowKit

/-- 'Code.wp' at a frame of an ordinary call. -/
def wpN (P : Program) (c : Code) (Q : Exit → Act → World → Prop) (a : Act) (w : World) : Prop :=
  ∀ (b : Frame) (k : List Item) (cs : List Frame), b.kind = .normal →
    ∃ e a' w', Q e a' w' ∧ Arrives P (lone (b.at a (.code c :: k)) cs w) b k cs e a' w'

section
variable {P : Program} {Q : Exit → Act → World → Prop} {a : Act} {w : World}

theorem wpN_of {c : Code} (h : c.wp P Q a w) : wpN P c Q a w := fun b k cs _ => h b k cs

theorem wpN_seq' {x y : Code} (h : wpN P x (Exit.then (wpN P y Q) Q) a w) : wpN P (.seq x y) Q a w := by
  intro b k cs hk
  obtain ⟨e, a₁, w₁, hq, harr⟩ := h b (.code y :: k) cs hk
  cases e with
  | normal =>
    obtain ⟨e₂, a₂, w₂, hq₂, harr₂⟩ := hq b k cs hk
    exact ⟨e₂, a₂, w₂, hq₂, .of_steps (.head step_seq harr) harr₂⟩
  | exit id => exact ⟨_, a₁, w₁, hq, .of_steps (.one step_seq) (.pass (x := .code y) rfl (fun _ _ => .inl (by simp)) harr)⟩
  | goto l => exact ⟨_, a₁, w₁, hq, .of_steps (.one step_seq) (.pass (x := .code y) rfl (fun _ _ => .inl (by simp)) harr)⟩
  | ret => exact ⟨_, a₁, w₁, hq, .of_steps (.one step_seq) (.pass (x := .code y) rfl (fun _ _ => .inl (by simp)) harr)⟩
  | panic ch => exact ⟨_, a₁, w₁, hq, .of_steps (.one step_seq) (.pass (x := .code y) rfl (fun _ _ => .inl (by simp)) harr)⟩
  | outgrown => exact ⟨_, a₁, w₁, hq, .of_steps (.one step_seq) (.pass (x := .code y) rfl (fun _ _ => .inl (by simp)) harr)⟩

theorem wpN_seq {x y : Code} (h : x.wp P (Exit.then (wpN P y Q) Q) a w) : wpN P (.seq x y) Q a w := wpN_seq' (wpN_of h)

theorem calls_of_wpN {f : FuncId} {fn : Func} {c : Code} {args : Array Value} {R : Ending → World → Prop}
    (hf : P.funcs[f]? = some fn) (hb : fn.body = some c)
    (h : wpN P c (bodyPost P fn R) { tmps := args ++ Array.replicate (fn.ntmps - args.size) undef, defers := [] } w) :
    Calls P f args w R := by
  intro cs
  let b : Frame := { (default : Frame) with fn := f, kind := .normal }
  have henter : Frame.enter P f args .normal =
      b.at { tmps := args ++ Array.replicate (fn.ntmps - args.size) undef, defers := [] } [.code c] := by
    simp [Frame.enter, Frame.at, hf, hb, b]
  obtain ⟨e, a', w', hq, harr⟩ := h b [] cs rfl
  rw [← henter] at harr
  cases e with
  | normal =>
    obtain ⟨hd, v, hr, hR⟩ := hq
    exact ⟨.returned v, w', _, hR, Steps.trans harr (.one step_end), rfl, rfl, hd, rfl, fn, hf, hr⟩
  | ret =>
    obtain ⟨hd, v, hr, hR⟩ := hq
    obtain ⟨todo, hs⟩ := harr
    exact ⟨.returned v, w', _, hR, hs, rfl, rfl, hd, rfl, fn, hf, hr⟩
  | panic chain =>
    obtain ⟨hd, hR⟩ := hq
    obtain ⟨todo, hs⟩ := harr
    exact ⟨.panicked chain, w', _, hR, hs, rfl, rfl, hd, fn, hf⟩
  | exit id => exact hq.elim
  | goto l => exact hq.elim
  | outgrown => exact ⟨.outgrown, w', b, hq, harr.resolve_left (by simp [b]), rfl, trivial⟩

/-- A region whose first operation is one step of the machine's, known apart. -/
theorem wpN_region_head {id : Nat} {o : Oper} {l : List Oper} {v : Value} {w' : World}
    (hs : ∀ (b : Frame) (k : List Item) (cs : List Frame), b.kind = .normal →
      step P (lone (b.at a (.inRegion (o :: l).toArray (0 :: List.range' 1 l.length) :: k)) cs w) =
        .next (lone ((b.at a (.inRegion (o :: l).toArray (0 :: List.range' 1 l.length) :: k)).finish v) cs w'))
    (h : wpList P (o :: l).toArray Q l (a.put o.dst v) w') : wpN P (.region id (o :: l).toArray false) Q a w := by
  intro b k cs hk
  have h' : wpOps P (o :: l).toArray Q (List.range' 1 l.length) (a.put o.dst v) w' := by
    rw [wpOps_eq_wpList l 1 (fun j => by simp [Nat.add_comm 1 j])]
    exact h
  obtain ⟨e, a', w₂, hq, harr⟩ := wp_ops _ _ _ h' b k cs
  refine ⟨e, a', w₂, hq, .of_steps (.head step_region (.one ?_)) harr⟩
  have e1 : List.range (o :: l).toArray.size = 0 :: List.range' 1 l.length := by
    simp [List.range_eq_range', List.range'_succ]
  rw [e1, hs b k cs hk, Frame.finish_at]
  rfl

section
variable {o : Oper} {l : List Oper} {id : Nat} {x y : Operand} {t : TypeId} {c cap s r : Nat} {buf : Array Value} {tm : Bool} {v z : Value}

theorem run_select1_send (ho : o.op = .select #[{ chan := x, send := some y, elem := t }] false) (hx : a.eval x = .chan (some c)) (hy : a.eval y = v)
    (hz : (zeroValue t).run P w = .ok z w) : (execOp a.eval o).run P w = .ok (.comm #[scase c v z] false .select) w := by
  unfold execOp
  simp [ho, hx, hy, hz, scase]
theorem run_select1_recv (ho : o.op = .select #[{ chan := x, send := none, elem := t }] false) (hx : a.eval x = .chan (some c))
    (hz : (zeroValue t).run P w = .ok z w) : (execOp a.eval o).run P w = .ok (.comm #[rcase c z] false .select) w := by
  unfold execOp
  simp [ho, hx, hz, rcase]

/-- The send has room. -/
theorem wpN_select_send_room (ho : o.op = .select #[{ chan := x, send := some y, elem := t }] false) (hg : o.guard = none) (hx : a.eval x = .chan (some c)) (hy : a.eval y = v)
    (hz : (zeroValue t).run P w = .ok z w) (hc : w.heap[c]? = some (.chan cap buf false s r tm)) (hroom : buf.size < cap)
    (h : wpList P (o :: l).toArray Q l (a.put o.dst (.tuple #[goInt 0, .bool false])) (w.setChan c cap (buf.push v) false (s + 1) r tm)) : wpN P (.region id (o :: l).toArray false) Q a w :=
  wpN_region_head (fun b k cs hk => step_lone_select_send_room (stepG_comm (o := o) (by simp) (by simp [Region.wanted, hg]) (by rw [hk]; decide) (run_select1_send ho hx hy hz)) hc hroom) h
/-- The send has no room. -/
theorem wpN_select_send_full (ho : o.op = .select #[{ chan := x, send := some y, elem := t }] false) (hg : o.guard = none) (hx : a.eval x = .chan (some c)) (hy : a.eval y = v)
    (hz : (zeroValue t).run P w = .ok z w) (hc : w.heap[c]? = some (.chan cap buf false s r tm)) (hfull : cap ≤ buf.size)
    (h : wpList P (o :: l).toArray Q l (a.put o.dst (.tuple #[goInt (-1), .bool false])) w) : wpN P (.region id (o :: l).toArray false) Q a w :=
  wpN_region_head (fun b k cs hk => step_lone_select_send_full (stepG_comm (o := o) (by simp) (by simp [Region.wanted, hg]) (by rw [hk]; decide) (run_select1_send ho hx hy hz)) hc hfull) h
/-- Something is there. -/
theorem wpN_select_recv_buf (ho : o.op = .select #[{ chan := x, send := none, elem := t }] false) (hg : o.guard = none) (hx : a.eval x = .chan (some c))
    (hz : (zeroValue t).run P w = .ok z w) (hc : w.heap[c]? = some (.chan cap buf false s r tm)) (hsome : 0 < buf.size)
    (h : wpList P (o :: l).toArray Q l (a.put o.dst (.tuple #[goInt 0, .bool true, buf.getD 0 undef])) (w.setChan c cap (buf.extract 1 buf.size) false s (r + 1) tm)) : wpN P (.region id (o :: l).toArray false) Q a w :=
  wpN_region_head (fun b k cs hk => step_lone_select_recv_buf (stepG_comm (o := o) (by simp) (by simp [Region.wanted, hg]) (by rw [hk]; decide) (run_select1_recv ho hx hz)) hc hsome) h
/-- Nothing is there. -/
theorem wpN_select_recv_none (ho : o.op = .select #[{ chan := x, send := none, elem := t }] false) (hg : o.guard = none) (hx : a.eval x = .chan (some c))
    (hz : (zeroValue t).run P w = .ok z w) (hc : w.heap[c]? = some (.chan cap #[] false s r tm))
    (h : wpList P (o :: l).toArray Q l (a.put o.dst (.tuple #[goInt (-1), .bool false, z])) w) : wpN P (.region id (o :: l).toArray false) Q a w :=
  wpN_region_head (fun b k cs hk => step_lone_select_default (stepG_comm (o := o) (by simp) (by simp [Region.wanted, hg]) (by rw [hk]; decide) (run_select1_recv ho hx hz)) hc) h
end
end
end Go.Proofs.Ytjgdmdjndkkckaa
