/-
  awake; packets held against each other.
-/
import Derived.Test.YtniiikgkeiomoaaDup
namespace Go.Proofs.Ytniiikgkeiomoaa
open Go.RowKit Go.Maps

/-- Two packets held against each other. -/
def pkEq (p q : Pk) : Bool := p.from_ == q.from_ && (p.to_ == q.to_ && p.data.toList == q.data.toList)
theorem pkEq_self (p : Pk) : pkEq p p = true := by simp [pkEq]
theorem held25 : Try.prog.stoodInHeld 25 = false := by kernel_rfl
theorem part0 (p : Pk) (w : World) : (part 3 #[.int .i64 p.from_, .int .i64 p.to_, .string p.data] 0).run Try.prog w = .ok (.int .i64 p.from_) w := by kernel_rfl
theorem part1 (p : Pk) (w : World) : (part 3 #[.int .i64 p.from_, .int .i64 p.to_, .string p.data] 1).run Try.prog w = .ok (.int .i64 p.to_) w := by kernel_rfl
theorem part2 (p : Pk) (w : World) : (part 9 #[.int .i64 p.from_, .int .i64 p.to_, .string p.data] 2).run Try.prog w = .ok (.string p.data) w := by kernel_rfl
theorem list3 {α : Type} : ∀ {l : List α}, l.length = 3 → ∃ a b c, l = [a, b, c]
  | [a, b, c], _ => ⟨a, b, c, rfl⟩
theorem eqIn_pk (p q : Pk) (w : World) : (Op.equalIn 10000 25 p.v q.v).run Try.prog w = .ok (pkEq p q) w := by
  have e := run_equalIn_struct (P := Try.prog) w 9999 25 #[.int .i64 p.from_, .int .i64 p.to_, .string p.data] #[.int .i64 q.from_, .int .i64 q.to_, .string q.data] (by simp only [Program.fieldsOf, Try.underlying25]) held25
  refine e.trans ?_
  clear e
  have hf : (Try.prog.fieldsOf 25).toList.map (fun f => (f.name == "_", f.type, f.offset)) = [(false, 3, 0), (false, 3, 1), (false, 9, 2)] := by kernel_rfl
  have hlen : (Try.prog.fieldsOf 25).toList.length = 3 := by kernel_rfl
  obtain ⟨f0, f1, f2, hl⟩ := list3 hlen
  rw [hl] at hf ⊢
  simp only [List.map_cons, List.map_nil, List.cons.injEq, Prod.mk.injEq, beq_eq_false_iff_ne] at hf
  obtain ⟨⟨n0, t0, o0⟩, ⟨n1, t1, o1⟩, ⟨n2, t2, o2⟩, _⟩ := hf
  simp only [Op.eqFields, n0, n1, n2, ne_eq, not_false_eq_true, if_true, Sem.run_bind, Sem.run_ite, Sem.run_pure, t0, t1, t2, o0, o1, o2, part0, part1, part2, Result.andThen_ok, run_equalIn_int w 9998 3 .i64 .i64 _ _ Try.underlying3, run_equalIn_string w 9998 9 _ _ Try.underlying9]
  unfold pkEq
  cases p.from_ == q.from_ <;> cases p.to_ == q.to_ <;> cases p.data.toList == q.data.toList <;> simp

def pk1 : Pk := ⟨1, 2, ⟨#[97]⟩⟩
theorem pk1_ok : pk1.ok := ⟨by decide, by decide⟩
theorem at51 : at_ 5 1 = 0 := by decide
theorem at12 : at_ (-1) 2 = 1 := by decide
theorem net_old {w w' : World} {base nb : Nat} {ps ps' : List Pk} {C : Cuts} (h : IsNet w base nb ps C) (hd : NetDo w base nb ps' C w') : Turn (base ≤ ·) w w' := hd.turn.mono fun _ _ hk => (NetB.lt h hk).1

set_option maxRecDepth 100000 in
set_option maxHeartbeats 2000000 in
theorem awake_any (w : World) : Calls Try.prog 10 #[] w fun e w' => e = .returned (.bool true) ∧ Below w.heap.size w w' := by
  go_enter Try.func10, Try.ntmps10
  go_wp2_with fail
  refine (new_net w.heap.size w (Nat.le_refl _)).mono ?_
  rintro e w1 ⟨rfl, n1, t1⟩
  generalize w.heap.size + 1 = nb at *
  obtain ⟨W, hW⟩ : ∃ W, W = w1.alloc (.cells #[.int .i64 1, .int .i64 2, .string ⟨#[97]⟩] 25) := ⟨_, rfl⟩
  have tW : Turn (fun _ => False) w1 W := by rw [hW]; exact (Turn.refl _ w1).alloc _
  have nW := n1.turn0 tW
  have HW := hide hW
  clear hW
  go_wp2_with fail
  rw [← HW.out]
  refine (send_go w.heap.size nb [] _ pk1 W nW (by decide) (by decide) pk1_ok rfl).mono ?_
  rintro e w2 ⟨rfl, h2⟩
  go_wp2_with fail
  refine (dup_ok w.heap.size nb [pk1] _ 5 w2 h2.net (by decide) (by decide) 0 at51.symm (by decide)).mono ?_
  rintro e w3 ⟨rfl, h3⟩
  go_wp2_with fail
  refine (waiting_ok w.heap.size nb [pk1, pk1] _ w3 h3.net).mono ?_
  rintro e w' ⟨rfl, rfl⟩
  go_wp2_with fail
  refine (come_ok w.heap.size nb [pk1, pk1] _ (-1) w3 h3.net (by decide) (by decide) 1 at12.symm (by decide)).mono ?_
  rintro e w4 ⟨rfl, h4⟩
  have e4 : comeV Cuts.none ([pk1, pk1][1]) = .tuple #[.agg #[.int .i64 1, .int .i64 2, .string ⟨#[97]⟩], .bool true] := rfl
  rw [e4]
  have hszW : W.heap.size = w1.heap.size + 1 := by rw [HW.out]; simp
  have z0 : W.heap[w1.heap.size]? = some (.cells #[.int .i64 1, .int .i64 2, .string ⟨#[97]⟩] 25 (0, 0)) := by rw [HW.out]; exact heap_alloc_new w1 _
  have b0 : ¬ NetB W nb w1.heap.size := fun hh => by have := (NetB.lt n1 (hh.of (tW.block nb n1.lt (fun h => h)))).2; omega
  have b2 : ¬ NetB w2 nb w1.heap.size := fun hh => by rcases h2.rows _ hh with h | h; exact b0 h; omega
  have s2 := h2.turn.size
  have b3 : ¬ NetB w3 nb w1.heap.size := fun hh => by rcases h3.rows _ hh with h | h; exact b2 h; omega
  have s3 := h3.turn.size
  have s4 := h4.turn.size
  have z2 := h2.turn.obj z0 b0
  have z3 := h3.turn.obj z2 b2
  have z4 := h4.turn.obj z3 b3
  have z5 : (w4.alloc (.cells #[.int .i64 1, .int .i64 2, .string ⟨#[97]⟩] 25)).heap[w1.heap.size]? = some (.cells #[.int .i64 1, .int .i64 2, .string ⟨#[97]⟩] 25 (0, 0)) := by rw [Below.heap_alloc _ _ _ (by omega)]; exact z4
  obtain ⟨x0, x1, x2, _⟩ := cell3 z5
  have n4 := h4.net.turn0 ((Turn.refl (fun _ => False) w4).alloc (.cells #[.int .i64 1, .int .i64 2, .string ⟨#[97]⟩] 25))
  have N4 := hide n4
  have tall : Turn (w.heap.size ≤ ·) w w4 := ((((t1.trans tW).mono fun _ _ h => h.elim).trans (net_old nW h2)).trans (net_old h2.net h3)).trans (net_old h3.net h4)
  have TALL := hide tall
  clear z0 z2 z3 z4 z5 b0 b2 b3 n4 tall e4 n1 nW h2 h3 h4 t1 tW hszW
  go_wp2_with fail
  refine (waiting_ok w.heap.size nb _ _ _ (by exact N4.out)).mono ?_
  rintro e w' ⟨rfl, rfl⟩
  go_wp2_with fail
  go_ret
  exact ⟨rfl, (TALL.out.alloc _).below (Nat.le_refl _) (fun _ h => h)⟩
end Go.Proofs.Ytniiikgkeiomoaa
