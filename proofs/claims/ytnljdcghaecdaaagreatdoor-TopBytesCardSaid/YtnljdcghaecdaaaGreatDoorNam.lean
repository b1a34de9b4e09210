/-
  A value of a record or choice.
-/
import Derived.Test.YtnljdcghaecdaaaGreatDoorTyp
import Derived.RegionTactic
/-
  A cursor over a value's parts: next, bare, one.
-/
namespace Go.Proofs.YtnljdcghaecdaaaGreatDoor
open Go.RowKit Go.Lib Go.Maps
attribute [local go_sem] Oper.semAt_some

abbrev nodev (x : NodeD) : Value := .agg #[.int .u8 x.kind, .int .i64 x.num, .string x.text, .int .i64 x.kids]
def zeroN : NodeD := ⟨0, 0, ⟨#[]⟩, 0⟩
def bareN (x : NodeD) (a b c : Bool) : Bool := (a || x.num == 0) && (b || bare0 x.text) && (c || x.kids == 0)
set_option maxRecDepth 100000 in
theorem one1_any (b : Bool) (w : World) : Calls Tryz.prog 55 #[.bool b] w fun e w' => e = .returned (.int .i64 (if b = true then 1 else 0)) ∧ w' = w := by
  cases b
  all_goals
    go_enter Tryz.func55, Tryz.ntmps55
    go_wp2_with fail
    go_ret
    exact ⟨rfl, rfl⟩
set_option maxRecDepth 100000 in
set_option maxHeartbeats 4000000 in
theorem bare_any (x : NodeD) (a b c : Bool) (w : World) : Calls Tryz.prog 56 #[nodev x, .bool a, .bool b, .bool c] w fun e w' => e = .returned (.bool (bareN x a b c)) ∧ Turn (fun _ => False) w w' := by
  have e1 := bare_eq x.text
  have HB : Hid (bareN x a b c = ((a || x.num == 0) && (b || bare0 x.text) && (c || x.kids == 0))) := hide rfl
  have T1 : Hid (Turn (fun _ => False) w (w.alloc (.cells #[.int .u8 x.kind, .int .i64 x.num, .string x.text, .int .i64 x.kids] 46))) := hide ((Turn.refl _ w).alloc _)
  generalize bareN x a b c = r at *
  generalize bare0 x.text = bt at *
  unfold nodev
  generalize x.num = u at *
  have HU : Hid (∀ q : Bool, (u == 0) = q → r = ((a || q) && (b || bt) && (c || x.kids == 0))) := hide (fun q h => by rw [HB.out, h])
  clear HB
  by_cases hu : u = 0
  case' pos =>
    have HR := hide (HU.out true (by simp [hu]))
    subst hu
  case' neg =>
    have HR := hide (HU.out false (by simp [hu]))
    have hu1 : (u == 0) = false := by simp [hu]
  all_goals
    clear HU
    cases a <;> cases b <;> cases bt <;> cases c
    all_goals
      go_enter Tryz.func56, Tryz.ntmps56
      go_wp2_with fail
      go_ret
      exact ⟨by rw [HR.out]; rfl, T1.out⟩
def NextTo (k : Int) (W1 : World) (ns : List NodeD) (nv fv : Value) (cb at0 : Nat) (ts : List Thing) (n : Nat) (e : Ending) (w' : World) : Prop :=
  ∃ (x : NodeD) (ok : Bool), e = .returned (.tuple #[nodev x, .bool ok]) ∧ (ok = true → ns[at0]? = some x ∧ x.kind = k ∧ Hid (Lie W1.heap.size W1 w' (ts.set n (box cb (.cells #[nv, .int .i64 (at0 + 1 : Nat), fv] 75 (0, 0)))))) ∧ (ok = false → Hid (Lie W1.heap.size W1 w' ts))
theorem node_cells {W w : World} {ns : List NodeD} {b o m c : Nat} (H : Hid (NodesAt W (.slice (some ⟨b, o, none⟩) m c) ns)) (T : Turn (fun _ => False) W w) {i : Nat} {x : NodeD} (hx : Hid (ns[i]? = some x)) : w.cell? ⟨b, o + i * 4, none⟩ = some (.int .u8 x.kind) ∧ w.cell? ⟨b, o + i * 4 + 1, none⟩ = some (.int .i64 x.num) ∧ w.cell? ⟨b, o + i * 4 + 2, none⟩ = some (.string x.text) ∧ w.cell? ⟨b, o + i * 4 + 3, none⟩ = some (.int .i64 x.kids) := by
  obtain ⟨hi, rfl⟩ := List.getElem?_eq_some_iff.1 hx.out
  obtain ⟨b', o', e, _, _, hc⟩ := node_at (A := some ⟨b, o, none⟩) (c := c) (n := m) ns (NodesAt.on H.out T) (by omega)
  injection e with e
  injection e with e1 e2
  subst e1 e2
  exact hc i hi
theorem frz {B : Nat} {w0 w : World} {ts : List Thing} {T : Thing} {b : Nat} {cs : Array Value} {ty : TypeId} (h : Hid (Lie B w0 w ts)) (n : Nat) (hn : ts[n]? = some T) (e : Hid (T = box b (.cells cs ty (0, 0)))) (i : Nat) : w.frozen? ⟨b, i, none⟩ = false := by
  have h1 := h.out.get n hn
  rw [e.out] at h1
  exact (box_cell (show w.heap[b]? = _ from h1) i).2
section
variable {W1 w : World} {ns : List NodeD} {nv fv : Value} {cb : Nat} {ts : List Thing}
set_option maxRecDepth 100000 in
set_option maxHeartbeats 4000000 in
theorem next_any (k : Int) (at0 : Nat) (n : Nat) (hns : Hid (NodesAt W1 nv ns)) (hnn : ns.length ≤ 100000) (hat : at0 ≤ ns.length) (hn : ts[n]? = some (box cb (.cells #[nv, .int .i64 at0, fv] 75 (0, 0)))) (L : Hid (Lie W1.heap.size W1 w ts)) :
    Calls Tryz.prog 54 #[.pointer (some ⟨cb, 0, none⟩), .int .u8 k] w (NextTo k W1 ns nv fv cb at0 ts n) := by
  obtain ⟨An, cn, rfl⟩ := hns.out.shape
  obtain ⟨w2, rr, RB, HW2, HR2, HRB, S2⟩ := lay L (.cells #[.int .u8 0, .int .i64 0, .string ⟨#[]⟩, .int .i64 0] 46)
  obtain ⟨q, hq⟩ : ∃ q, q = ns.length := ⟨_, rfl⟩
  have HQ := hide hq
  rw [← hq] at hnn hat hn ⊢
  have HNN := hide hn
  have hb := S2.out.get (n + 1) hn
  obtain ⟨c0, c1, c2⟩ := cell3 hb
  have f1 : w2.frozen? ⟨cb, 1, none⟩ = false := (box_cell hb 1).2
  obtain ⟨z0, z1, z2, z3⟩ := at4 S2 0 rfl HRB
  have hrb := S2.out.get 0 rfl
  rw [HRB.out] at hrb
  have g0 : w2.frozen? ⟨rr, 0, none⟩ = false := (box_cell hrb 0).2
  have g1 : w2.frozen? ⟨rr, 1, none⟩ = false := (box_cell hrb 1).2
  have g2 : w2.frozen? ⟨rr, 2, none⟩ = false := (box_cell hrb 2).2
  have g3 : w2.frozen? ⟨rr, 3, none⟩ = false := (box_cell hrb 3).2
  clear hq hn hb hrb
  have FAIL : ∀ d : Nat, Hid (Lie W1.heap.size W1 (w2.drewN d) (RB :: ts)) := fun d => hide (S2.out.drewN d)
  by_cases hlt : at0 < q
  · have hil : at0 < ns.length := by have := HQ.out; omega
    obtain ⟨b, o, rfl, hbl, hnz, hc⟩ := node_at (A := An) (c := cn) (n := ns.length) ns (NodesAt.on hns.out (lie_turn S2)) (by omega)
    obtain ⟨d0, d1, d2, d3⟩ := hc at0 hil
    have HX : Hid (ns[at0]? = some ns[at0]) := hide (List.getElem?_eq_getElem hil)
    generalize ns[at0] = x at *
    clear hc hnz
    by_cases hkk : x.kind = k
    · subst hkk
      go_enter Tryz.func54, Tryz.ntmps54
      go_wp2_with fail
      rw [← HW2.out, ← HR2.out]
      go_quiet (fail)
      have S3 := FAIL nq
      clear FAIL d0 d1 d2 d3
      generalize w2.drewN nq = w3 at *
      clear c0 c1 c2 f1 z0 z1 z2 z3 g0 g1 g2 g3
      have hb := S3.out.get (n + 1) HNN.out
      obtain ⟨c0, c1, c2⟩ := cell3 hb
      have f1 : w3.frozen? ⟨cb, 1, none⟩ = false := (box_cell hb 1).2
      clear hb
      have S4 : Hid (Lie W1.heap.size W1 (w3.setCell ⟨cb, 1, none⟩ (.int .i64 ((at0 : Int) + 1))) (RB :: ts.set n (box cb (.cells #[.slice (some ⟨b, o, none⟩) q cn, .int .i64 ((at0 : Int) + 1), fv] 75 (0, 0))))) := hide (S3.out.setBox (n + 1) HNN.out 1 (.int .i64 ((at0 : Int) + 1)))
      go_wp2_with fail
      generalize w3.setCell ⟨cb, 1, none⟩ (.int .i64 ((at0 : Int) + 1)) = w4 at *
      clear c0 c1 c2 f1
      have hb := S4.out.get (n + 1) (set_get HNN.out _)
      obtain ⟨c0, c1, c2⟩ := cell3 hb
      clear hb
      obtain ⟨y0, y1, y2, y3⟩ := node_cells hns (lie_turn S4) HX
      have hwr : IntKind.i64.wrap (at0 : Int) = (at0 : Int) := IntWalk.i64_in _ (by omega)
      go_still_tail 11, (by kernel_rfl)
      change wpList _ _ _ _ _ w4.drew
      have S5 := hide S4.out.drew
      generalize w4.drew = w5 at *
      clear c0 c1 c2 y0 y1 y2 y3 hwr
      rw [HRB.out] at S5
      obtain ⟨z0, z1, z2, z3⟩ := cell4 (S5.out.get 0 rfl)
      have g0 := (box_cell (S5.out.get 0 rfl) 0).2
      have g1 := (box_cell (S5.out.get 0 rfl) 1).2
      have g2 := (box_cell (S5.out.get 0 rfl) 2).2
      have g3 := (box_cell (S5.out.get 0 rfl) 3).2
      have S6 : Hid (Lie W1.heap.size W1 ((((w5.setCell ⟨rr, 0, none⟩ (.int .u8 x.kind)).setCell ⟨rr, 1, none⟩ (.int .i64 x.num)).setCell ⟨rr, 2, none⟩ (.string x.text)).setCell ⟨rr, 3, none⟩ (.int .i64 x.kids)) (box rr (.cells #[.int .u8 x.kind, .int .i64 x.num, .string x.text, .int .i64 x.kids] 46 (0, 0)) :: ts.set n (box cb (.cells #[.slice (some ⟨b, o, none⟩) q cn, .int .i64 ((at0 : Int) + 1), fv] 75 (0, 0))))) := hide ((((S5.out.setBox 0 rfl 0 (.int .u8 x.kind)).setBox 0 rfl 1 (.int .i64 x.num)).setBox 0 rfl 2 (.string x.text)).setBox 0 rfl 3 (.int .i64 x.kids))
      go_wp2_with fail
      generalize (((w5.setCell ⟨rr, 0, none⟩ (.int .u8 x.kind)).setCell ⟨rr, 1, none⟩ (.int .i64 x.num)).setCell ⟨rr, 2, none⟩ (.string x.text)).setCell ⟨rr, 3, none⟩ (.int .i64 x.kids) = w6 at *
      clear z0 z1 z2 z3 g0 g1 g2 g3
      obtain ⟨z0, z1, z2, z3⟩ := cell4 (S6.out.get 0 rfl)
      try simp only [Exit.inBlock, Exit.then]
      refine bodyPost_ret (v := .tuple #[.agg #[.int .u8 x.kind, .int .i64 x.num, .string x.text, .int .i64 x.kids], .bool true]) (by rw [results_cell_tmp rfl]; go_simp) rfl ?_
      exact ⟨x, true, rfl, (fun _ => ⟨HX.out, rfl, hide S6.out.pop⟩), (fun e => by cases e)⟩
    · have hne : (x.kind == k) = false := by simp [hkk]
      have hne2 : (x.kind != k) = true := by simp [hkk]
      go_enter Tryz.func54, Tryz.ntmps54
      go_wp2_with fail
      rw [← HW2.out, ← HR2.out]
      go_quiet (fail)
      have S3 := FAIL nq
      clear FAIL
      generalize w2.drewN nq = w3 at *
      clear c0 c1 c2 f1 z0 z1 z2 z3 g0 g1 g2 g3 d0 d1 d2 d3
      rw [HRB.out] at S3
      obtain ⟨z0, z1, z2, z3⟩ := cell4 (S3.out.get 0 rfl)
      have g0 := (box_cell (S3.out.get 0 rfl) 0).2
      have g1 := (box_cell (S3.out.get 0 rfl) 1).2
      have g2 := (box_cell (S3.out.get 0 rfl) 2).2
      have g3 := (box_cell (S3.out.get 0 rfl) 3).2
      have S4 : Hid (Lie W1.heap.size W1 ((((w3.setCell ⟨rr, 0, none⟩ (.int .u8 0)).setCell ⟨rr, 1, none⟩ (.int .i64 0)).setCell ⟨rr, 2, none⟩ (.string ⟨#[]⟩)).setCell ⟨rr, 3, none⟩ (.int .i64 0)) (box rr (.cells #[.int .u8 0, .int .i64 0, .string ⟨#[]⟩, .int .i64 0] 46 (0, 0)) :: ts)) := hide ((((S3.out.setBox 0 rfl 0 (.int .u8 0)).setBox 0 rfl 1 (.int .i64 0)).setBox 0 rfl 2 (.string ⟨#[]⟩)).setBox 0 rfl 3 (.int .i64 0))
      go_wp2_with fail
      generalize (((w3.setCell ⟨rr, 0, none⟩ (.int .u8 0)).setCell ⟨rr, 1, none⟩ (.int .i64 0)).setCell ⟨rr, 2, none⟩ (.string ⟨#[]⟩)).setCell ⟨rr, 3, none⟩ (.int .i64 0) = w5 at *
      clear z0 z1 z2 z3 g0 g1 g2 g3
      obtain ⟨z0, z1, z2, z3⟩ := cell4 (S4.out.get 0 rfl)
      try simp only [Exit.inBlock, Exit.then]
      refine bodyPost_ret (v := .tuple #[.agg #[.int .u8 0, .int .i64 0, .string ⟨#[]⟩, .int .i64 0], .bool false]) (by rw [results_cell_tmp rfl]; go_simp) rfl ?_
      exact ⟨zeroN, false, rfl, (fun e => by cases e), (fun _ => hide S4.out.pop)⟩
  · obtain rfl : at0 = q := by omega
    go_enter Tryz.func54, Tryz.ntmps54
    go_wp2_with fail
    rw [← HW2.out, ← HR2.out]
    go_quiet (fail)
    have S3 := FAIL nq
    clear FAIL
    generalize w2.drewN nq = w3 at *
    clear c0 c1 c2 f1 z0 z1 z2 z3 g0 g1 g2 g3
    rw [HRB.out] at S3
    obtain ⟨z0, z1, z2, z3⟩ := cell4 (S3.out.get 0 rfl)
    have g0 := (box_cell (S3.out.get 0 rfl) 0).2
    have g1 := (box_cell (S3.out.get 0 rfl) 1).2
    have g2 := (box_cell (S3.out.get 0 rfl) 2).2
    have g3 := (box_cell (S3.out.get 0 rfl) 3).2
    have S4 : Hid (Lie W1.heap.size W1 ((((w3.setCell ⟨rr, 0, none⟩ (.int .u8 0)).setCell ⟨rr, 1, none⟩ (.int .i64 0)).setCell ⟨rr, 2, none⟩ (.string ⟨#[]⟩)).setCell ⟨rr, 3, none⟩ (.int .i64 0)) (box rr (.cells #[.int .u8 0, .int .i64 0, .string ⟨#[]⟩, .int .i64 0] 46 (0, 0)) :: ts)) := hide ((((S3.out.setBox 0 rfl 0 (.int .u8 0)).setBox 0 rfl 1 (.int .i64 0)).setBox 0 rfl 2 (.string ⟨#[]⟩)).setBox 0 rfl 3 (.int .i64 0))
    go_wp2_with fail
    generalize (((w3.setCell ⟨rr, 0, none⟩ (.int .u8 0)).setCell ⟨rr, 1, none⟩ (.int .i64 0)).setCell ⟨rr, 2, none⟩ (.string ⟨#[]⟩)).setCell ⟨rr, 3, none⟩ (.int .i64 0) = w5 at *
    clear z0 z1 z2 z3 g0 g1 g2 g3
    obtain ⟨z0, z1, z2, z3⟩ := cell4 (S4.out.get 0 rfl)
    try simp only [Exit.inBlock, Exit.then]
    refine bodyPost_ret (v := .tuple #[.agg #[.int .u8 0, .int .i64 0, .string ⟨#[]⟩, .int .i64 0], .bool false]) (by rw [results_cell_tmp rfl]; go_simp) rfl ?_
    exact ⟨zeroN, false, rfl, (fun e => by cases e), (fun _ => hide S4.out.pop)⟩
end
end Go.Proofs.YtnljdcghaecdaaaGreatDoor
/-
  Parts that are values of types. No program in sight.
-/
namespace Go.Proofs.YtnljdcghaecdaaaGreatDoor
open Go.RowKit Go.Lib

def baseOk (k : Int) (n : NodeD) : Bool := decide (n.kind = k) && bareN n (decide (k = 2) || decide (k = 3)) (decide (k = 4)) false && (!decide (k = 2) || (decide (0 ≤ n.num) && decide (n.num ≤ 1)))
/-- These parts are values of these types, one behind another. -/
inductive Tys (fr : ByteArray → RecD) : List (List SortD) → List NodeD → Prop
  | nil : Tys fr [] []
  | base {x : SortD} {r : List SortD} {more : List (List SortD)} {n : NodeD} {ns : List NodeD} (hk : x.kind = 1 ∨ x.kind = 2 ∨ x.kind = 3 ∨ x.kind = 4) (h : baseOk x.kind n = true) : Tys fr more ns → Tys fr ((x :: r) :: more) (n :: ns)
  | list {x : SortD} {r : List SortD} {more : List (List SortD)} {n : NodeD} {ns : List NodeD} (hk : x.kind = 5) (hn : n.kind = 5) (h : bareN n false false true = true) (h0 : 0 ≤ n.kids) : Tys fr (List.replicate n.kids.toNat r ++ more) ns → Tys fr ((x :: r) :: more) (n :: ns)
  | opt {x : SortD} {r : List SortD} {more : List (List SortD)} {n : NodeD} {ns : List NodeD} (hk : x.kind = 6) (hn : n.kind = 6) (h : bareN n false false true = true) (h0 : 0 ≤ n.kids) (h1 : n.kids ≤ 1) : Tys fr (List.replicate n.kids.toNat r ++ more) ns → Tys fr ((x :: r) :: more) (n :: ns)
  | choice {x : SortD} {r : List SortD} {more : List (List SortD)} {n : NodeD} {ns : List NodeD} (hk : x.kind ≠ 1 ∧ x.kind ≠ 2 ∧ x.kind ≠ 3 ∧ x.kind ≠ 4 ∧ x.kind ≠ 5 ∧ x.kind ≠ 6) (hc : (fr x.name).choice = true) (hn : n.kind = 8) (h : bareN n true false true = true) (hq : n.kids = 1) (h0 : 0 ≤ n.num) (hi : n.num.toNat < (fr x.name).fs.length) : Tys fr ((fr x.name).fs[n.num.toNat].ts :: more) ns → Tys fr ((x :: r) :: more) (n :: ns)
  | record {x : SortD} {r : List SortD} {more : List (List SortD)} {n : NodeD} {ns : List NodeD} (hk : x.kind ≠ 1 ∧ x.kind ≠ 2 ∧ x.kind ≠ 3 ∧ x.kind ≠ 4 ∧ x.kind ≠ 5 ∧ x.kind ≠ 6) (hc : (fr x.name).choice = false) (hn : n.kind = 7) (h : bareN n false false true = true) (hq : n.kids = (fr x.name).fs.length) : Tys fr ((fr x.name).fs.map FieldD.ts ++ more) ns → Tys fr ((x :: r) :: more) (n :: ns)
/-- Going on from a place to another one takes just these types. -/
def Takes (fr : ByteArray → RecD) (ns : List NodeD) (tl : List (List SortD)) (a b : Nat) : Prop := ∀ more, Tys fr more (ns.drop b) → Tys fr (tl ++ more) (ns.drop a)
theorem takes_nil (fr : ByteArray → RecD) (ns : List NodeD) (a : Nat) : Takes fr ns [] a a := fun _ h => h
theorem takes_app {fr : ByteArray → RecD} {ns : List NodeD} {t u : List (List SortD)} {a b c : Nat} (h : Takes fr ns t a b) (h2 : Takes fr ns u b c) : Takes fr ns (t ++ u) a c := fun more hm => by
  rw [List.append_assoc]
  exact h _ (h2 _ hm)
theorem drop_at {ns : List NodeD} {a : Nat} {x : NodeD} (h : ns[a]? = some x) : ns.drop a = x :: ns.drop (a + 1) := by
  obtain ⟨hi, rfl⟩ := List.getElem?_eq_some_iff.1 h
  exact List.drop_eq_getElem_cons hi
theorem takes_base {fr : ByteArray → RecD} {ns : List NodeD} {x : SortD} {r : List SortD} {n : NodeD} {a : Nat} (hx : ns[a]? = some n) (hk : x.kind = 1 ∨ x.kind = 2 ∨ x.kind = 3 ∨ x.kind = 4) (h : baseOk x.kind n = true) : Takes fr ns [x :: r] a (a + 1) := fun more hm => by
  rw [drop_at hx]
  exact .base hk h hm
theorem takes_list {fr : ByteArray → RecD} {ns : List NodeD} {x : SortD} {r : List SortD} {n : NodeD} {a b : Nat} (hx : ns[a]? = some n) (hk : x.kind = 5) (hn : n.kind = 5) (h : bareN n false false true = true) (h0 : 0 ≤ n.kids) (ht : Takes fr ns (List.replicate n.kids.toNat r) (a + 1) b) : Takes fr ns [x :: r] a b := fun more hm => by
  rw [drop_at hx]
  exact .list hk hn h h0 (ht more hm)
theorem takes_opt {fr : ByteArray → RecD} {ns : List NodeD} {x : SortD} {r : List SortD} {n : NodeD} {a b : Nat} (hx : ns[a]? = some n) (hk : x.kind = 6) (hn : n.kind = 6) (h : bareN n false false true = true) (h0 : 0 ≤ n.kids) (h1 : n.kids ≤ 1) (ht : Takes fr ns (List.replicate n.kids.toNat r) (a + 1) b) : Takes fr ns [x :: r] a b := fun more hm => by
  rw [drop_at hx]
  exact .opt hk hn h h0 h1 (ht more hm)
/-- A named one, by its record. -/
def TakesR (fr : ByteArray → RecD) (ns : List NodeD) (rc : RecD) (a b : Nat) : Prop := ∀ x : SortD, ∀ r : List SortD, fr x.name = rc → (x.kind ≠ 1 ∧ x.kind ≠ 2 ∧ x.kind ≠ 3 ∧ x.kind ≠ 4 ∧ x.kind ≠ 5 ∧ x.kind ≠ 6) → Takes fr ns [x :: r] a b
theorem takes_choice {fr : ByteArray → RecD} {ns : List NodeD} {rc : RecD} {n : NodeD} {a b : Nat} (hx : ns[a]? = some n) (hc : rc.choice = true) (hn : n.kind = 8) (h : bareN n true false true = true) (hq : n.kids = 1) (h0 : 0 ≤ n.num) (hi : n.num.toNat < rc.fs.length) (ht : Takes fr ns [rc.fs[n.num.toNat].ts] (a + 1) b) : TakesR fr ns rc a b := by
  rintro x r rfl hk more hm
  rw [drop_at hx]
  exact .choice hk hc hn h hq h0 hi (ht more hm)
theorem takes_record {fr : ByteArray → RecD} {ns : List NodeD} {rc : RecD} {n : NodeD} {a b : Nat} (hx : ns[a]? = some n) (hc : rc.choice = false) (hn : n.kind = 7) (h : bareN n false false true = true) (hq : n.kids = rc.fs.length) (ht : Takes fr ns (rc.fs.map FieldD.ts) (a + 1) b) : TakesR fr ns rc a b := by
  rintro x r rfl hk more hm
  rw [drop_at hx]
  exact .record hk hc hn h hq (ht more hm)
end Go.Proofs.YtnljdcghaecdaaaGreatDoor
/-
  Many values, one behind another.
-/
namespace Go.Proofs.YtnljdcghaecdaaaGreatDoor
open Go.RowKit Go.Lib Go.Maps
attribute [local go_sem] Oper.semAt_some

abbrev cur (cb : Nat) (nv : Value) (a : Nat) (fv : Value) : Thing := box cb (.cells #[nv, .int .i64 (a : Nat), fv] 75 (0, 0))
/-- A type that is right. -/
structure TyOk (xs : List SortD) : Prop where
  wf : wfT xs = true
  len : xs.length ≤ 1000
  nm : ∀ x ∈ xs, x.name.size ≤ 100000
def OfTo (T : Nat → Prop) (more : Nat) (W1 : World) (ns : List NodeD) (nv fv : Value) (cb at0 : Nat) (ts : List Thing) (n : Nat) (e : Ending) (w' : World) : Prop :=
  ∃ (d b : Nat), e = .returned (.int .i64 d) ∧ at0 ≤ b ∧ b ≤ ns.length ∧ d ≤ b - at0 + more ∧ Hid (d ≠ 0 → T b) ∧ Hid (Lie W1.heap.size W1 w' (ts.set n (cur cb nv b fv)))
def OfAll (fr : ByteArray → RecD) (W1 : World) (ns : List NodeD) (nv fv : Value) (m : Nat) : Prop :=
  ∀ (tv : Value) (xs : List SortD) (w : World) (ts : List Thing) (n cb at0 : Nat), Hid (SortsAt W1 tv xs) → Hid (TyOk xs) → at0 ≤ ns.length → ns.length - at0 ≤ m → Hid (ts[n]? = some (cur cb nv at0 fv)) → Hid (Lie W1.heap.size W1 w ts) →
    Calls Tryz.prog 30 #[.pointer (some ⟨cb, 0, none⟩), tv] w (OfTo (Takes fr ns [xs] at0) 0 W1 ns nv fv cb at0 ts n)
def TypeTo (W1 : World) (tl : List (List SortD)) (i : Nat) (w' : World) (e : Ending) (w'' : World) : Prop := ∃ (tv : Value) (xs : List SortD), e = .returned tv ∧ w'' = w' ∧ Hid (tl[i]? = some xs) ∧ Hid (SortsAt W1 tv xs)
set_option maxRecDepth 100000 in
set_option maxHeartbeats 4000000 in
theorem many_any (fr : ByteArray → RecD) {W1 : World} {ns : List NodeD} {nv fv : Value} (m : Nat) (IH : Hid (OfAll fr W1 ns nv fv m)) (hnn : ns.length ≤ 100000) (tl : List (List SortD)) (fid : Nat) (caps : Array Value) (HF : Hid ((∃ p, caps = #[p] ∧ (fid = 58 ∨ fid = 59 ∨ fid = 90)) ∨ (∃ p q, caps = #[p, q] ∧ fid = 89))) (w : World) (ts : List Thing) (n cb at0 cnt : Nat) (hcnt : cnt = tl.length) (hc0 : cnt ≤ 100000) (HTL : Hid (∀ xs ∈ tl, TyOk xs))
    (HC : Hid (∀ (i : Nat) (w' : World) (a' : Nat), i < cnt → Hid (Lie W1.heap.size W1 w' (ts.set n (cur cb nv a' fv))) → Calls Tryz.prog fid (#[.int .i64 i] ++ caps) w' (TypeTo W1 tl i w')))
    (hat : at0 ≤ ns.length) (hm : ns.length - at0 ≤ m) (hn : Hid (ts[n]? = some (cur cb nv at0 fv))) (L : Hid (Lie W1.heap.size W1 w ts)) :
    Calls Tryz.prog 57 #[.pointer (some ⟨cb, 0, none⟩), .int .i64 cnt, .func (.func fid) #[] caps] w (OfTo (Takes fr ns tl at0) 1 W1 ns nv fv cb at0 ts n) := by
  have L0 : Hid (Lie W1.heap.size W1 w (ts.set n (cur cb nv at0 fv))) := hide (by rw [set_self hn.out]; exact L.out)
  have HCNT := hide hcnt
  clear hcnt
  obtain ⟨q, hq⟩ : ∃ q, q = ns.length := ⟨_, rfl⟩
  have HQ := hide hq
  rw [← hq] at hnn hat hm
  clear hq
  go_enter Tryz.func57, Tryz.ntmps57
  go_wp2_with fail
  go_loopw [11, 7] (fun s11 s7 wr => ∃ k deep a : Nat, k ≤ cnt ∧ s11 = .int .i64 k ∧ s7 = .int .i64 deep ∧ at0 ≤ a ∧ a ≤ q ∧ deep ≤ a - at0 ∧ Hid (Takes fr ns (tl.take k) at0 a) ∧ Hid (Lie W1.heap.size W1 wr (ts.set n (cur cb nv a fv)))) (fun s11 _ _ => cnt - (intOf s11).toNat)
  case atStart => exact ⟨0, 0, at0, by omega, rfl, rfl, by omega, hat, by omega, hide (by simpa using takes_nil fr ns at0), L0⟩
  case round =>
    clear L0 L
    obtain ⟨k, deep, a, hk, rfl, rfl, ha0, haq, hd, HT, HL⟩ := hrel
    by_cases hlt : k < cnt
    · have C1 := hide (HC.out k wr a hlt HL)
      rcases HF.out with ⟨pp, rfl, rfl | rfl | rfl⟩ | ⟨pp, pq, rfl, rfl⟩
      all_goals
        first
          | rw [show (#[.int .i64 (k : Int)] ++ #[pp, pq] : Array Value) = #[.int .i64 (k : Int), pp, pq] from rfl] at C1
          | rw [show (#[.int .i64 (k : Int)] ++ #[pp] : Array Value) = #[.int .i64 (k : Int), pp] from rfl] at C1
        go_wp2_with fail
        refine C1.out.mono ?_
        rintro e w2 ⟨tv, xs, rfl, rfl, HXS, HTA⟩
        have hmem : xs ∈ tl := List.mem_of_getElem? HXS.out
        have C2 := hide (IH.out tv xs _ (ts.set n (cur cb nv a fv)) n cb a HTA (hide (HTL.out xs hmem)) (by rw [← HQ.out]; exact haq) (by rw [← HQ.out]; omega) (hide (set_get hn.out _)) HL)
        clear C1 hmem
        go_wp2_with fail
        refine C2.out.mono ?_
        rintro e w3 ⟨d, b, rfl, hab, hbn, hdb, HTB, HL2⟩
        rw [List.set_set] at HL2
        rw [← HQ.out] at hbn
        clear C2 HL
        by_cases hd0 : d = 0
        · subst hd0
          go_wp2_with fail
          go_ret
          exact ⟨0, b, rfl, by omega, by rw [← HQ.out]; exact hbn, by omega, hide (fun h => absurd rfl h), HL2⟩
        · have hdz : ((d : Int) == 0) = false := by simp [hd0]
          have HTN : Hid (Takes fr ns (tl.take (k + 1)) at0 b) := hide (by
            have hkl : k < tl.length := by have := HCNT.out; omega
            rw [List.take_succ_eq_append_getElem hkl]
            have e : tl[k] = xs := by
              have := HXS.out
              rw [List.getElem?_eq_getElem hkl] at this
              exact Option.some.inj this
            rw [e]
            exact takes_app HT.out (HTB.out hd0))
          go_wp2_with fail
          go_roundw
          case rel => exact ⟨k + 1, max deep d, b, by omega, by go_num, by rw [show max (deep : Int) (d : Int) = ((max deep d : Nat) : Int) by omega], by omega, hbn, by omega, HTN, HL2⟩
          case measure => simp [intOf]; omega
    · obtain rfl : k = cnt := by omega
      go_wp2_with fail
      go_ret
      exact ⟨deep + 1, a, by go_num, ha0, by rw [← HQ.out]; exact haq, by omega, hide (fun _ => by have := HT.out; rwa [HCNT.out, List.take_length] at this), HL⟩
end Go.Proofs.YtnljdcghaecdaaaGreatDoor
/-
  The types of a value's parts: closures.
-/
namespace Go.Proofs.YtnljdcghaecdaaaGreatDoor
open Go.RowKit Go.Lib Go.Maps
attribute [local go_sem] Oper.semAt_some

theorem tail_sorts {W : World} {x y : SortD} {r : List SortD} {b o c : Nat} (h : SortsAt W (.slice (some ⟨b, o, none⟩) (x :: y :: r).length c) (x :: y :: r)) : SortsAt W (.slice (some ⟨b, o + 2, none⟩) (y :: r).length (c - 1)) (y :: r) ∧ (x :: y :: r).length ≤ c := by
  have hcap := h.2.le
  obtain ⟨⟨hl, A, c', e, _, hcl⟩, _⟩ := h
  injection e with e1 _ e3
  subst e1 e3
  obtain ⟨b', o', e4, hb, hcell⟩ := hcl (by simp)
  injection e4 with e4
  injection e4 with e5 e6
  subst e5 e6
  refine ⟨⟨⟨flat_length (f := sortc) (m := 2) (fun _ => rfl) _, _, _, rfl, (fun h => by cases h), fun _ => ⟨b, o + 2, rfl, hb, fun j u hj => ?_⟩⟩, ⟨_, _, _, rfl, by simp at hcap ⊢; omega⟩⟩, hcap⟩
  have := hcell (j + 2) u (by
    rw [List.flatMap_cons]
    simpa using hj)
  rw [show o + 2 + j = o + (j + 2) by omega]
  exact this
section
variable {W1 w : World} {ts : List Thing} {tb : Nat} {TB : Thing}
set_option maxRecDepth 100000 in
theorem tail58 (x y : SortD) (r : List SortD) (A : Option Addr) (c : Nat) (i : Nat) (tl : List (List SortD)) (j : Nat) (hj : tl[j]? = some (y :: r)) (ht : Hid (SortsAt W1 (.slice A (x :: y :: r).length c) (x :: y :: r))) (hi : ts[i]? = some TB) (HTB : Hid (TB = box tb (.cells #[.slice A (x :: y :: r).length c] 27 (0, 0)))) (L : Hid (Lie W1.heap.size W1 w ts)) (fid : Nat) (hf : fid = 58 ∨ fid = 59) :
    Calls Tryz.prog fid #[.int .i64 j, .pointer (some ⟨tb, 0, none⟩)] w (TypeTo W1 tl j w) := by
  obtain ⟨b, o, rfl, _⟩ := sort_at (A := A) (c := c) (n := (x :: y :: r).length) (x :: y :: r) ht.out (by simp)
  have c0 := at1 L i hi HTB
  obtain ⟨h1, h2⟩ := tail_sorts ht.out
  have H1 := hide h1
  have HJ := hide hj
  obtain ⟨m, hm⟩ : ∃ m, m = (y :: r).length := ⟨_, rfl⟩
  have e1 : (x :: y :: r).length = m + 1 := by rw [hm]; rfl
  rw [e1] at c0 h2
  rw [← hm] at H1
  have hm1 : 1 ≤ m := by rw [hm]; simp
  obtain ⟨c2, rfl⟩ : ∃ c2, c = c2 + 2 := ⟨c - 2, by omega⟩
  have H2 : Hid (SortsAt W1 (.slice (some ⟨b, o + 2, none⟩) m (c2 + 1)) (y :: r)) := H1
  clear hi h1 hj ht HTB hm e1 H1
  rcases hf with rfl | rfl
  · go_enter Tryz.func58, Tryz.ntmps58
    go_wp2_with fail
    go_ret
    exact ⟨_, _, rfl, rfl, HJ, H2⟩
  · go_enter Tryz.func59, Tryz.ntmps59
    go_wp2_with fail
    go_ret
    exact ⟨_, _, rfl, rfl, HJ, H2⟩
set_option maxRecDepth 100000 in
theorem field90 (rc : RecD) (A : Option Addr) (m c : Nat) (i : Nat) (j : Nat) (hj : j < rc.fs.length) (hf : Hid (FieldsAt W1 (.slice A m c) rc.fs)) (hl : rc.fs.length ≤ 100000) (hi : ts[i]? = some TB) (HTB : Hid (TB = box tb (.cells #[.string rc.name, .bool rc.choice, .slice A m c] 61 (0, 0)))) (L : Hid (Lie W1.heap.size W1 w ts)) :
    Calls Tryz.prog 90 #[.int .i64 j, .pointer (some ⟨tb, 0, none⟩)] w (TypeTo W1 (rc.fs.map FieldD.ts) j w) := by
  obtain ⟨b, o, rfl, hb, hn, hc⟩ := field_at (A := A) (c := c) (n := m) rc.fs (hf.out.on (lie_turn L)) (by omega)
  obtain ⟨k0, k1⟩ := hc j hj
  obtain ⟨c0, c1, c2⟩ := at3 L i hi HTB
  have HS := hide (hf.out.2 rc.fs[j] (List.getElem_mem hj))
  have HJ : Hid ((rc.fs.map FieldD.ts)[j]? = some rc.fs[j].ts) := hide (by rw [List.getElem?_map, List.getElem?_eq_getElem hj]; rfl)
  obtain ⟨At, ct, e⟩ := HS.out.1.shape
  rw [e] at k1 HS
  have hjm : j < m := by rw [hn]; exact hj
  generalize rc.fs[j].ts = xs at *
  clear k0 hc hn hj e hf hi HTB
  go_enter Tryz.func90, Tryz.ntmps90
  go_wp2_with fail
  go_ret
  exact ⟨_, _, rfl, rfl, HJ, HS⟩
set_option maxRecDepth 100000 in
theorem field89 (rc : RecD) (x : NodeD) (A : Option Addr) (m c : Nat) (i i2 : Nat) (j k : Nat) (hx : x.num = (j : Int)) (hj : j < rc.fs.length) (hf : Hid (FieldsAt W1 (.slice A m c) rc.fs)) (hl : rc.fs.length ≤ 100000) (hi : ts[i]? = some TB) (HTB : Hid (TB = box tb (.cells #[.string rc.name, .bool rc.choice, .slice A m c] 61 (0, 0)))) {NB : Thing} {nb : Nat} (hi2 : ts[i2]? = some NB) (HNB : Hid (NB = box nb (.cells #[.int .u8 x.kind, .int .i64 x.num, .string x.text, .int .i64 x.kids] 46 (0, 0)))) (L : Hid (Lie W1.heap.size W1 w ts)) (hk : k = 0) :
    Calls Tryz.prog 89 #[.int .i64 k, .pointer (some ⟨tb, 0, none⟩), .pointer (some ⟨nb, 0, none⟩)] w (TypeTo W1 [rc.fs[j].ts] k w) := by
  obtain ⟨b, o, rfl, hb, hn, hc⟩ := field_at (A := A) (c := c) (n := m) rc.fs (hf.out.on (lie_turn L)) (by omega)
  obtain ⟨k0, k1⟩ := hc j hj
  obtain ⟨c0, c1, c2⟩ := at3 L i hi HTB
  obtain ⟨d0, d1, d2, d3⟩ := at4 L i2 hi2 HNB
  rw [hx] at d1
  have HS := hide (hf.out.2 rc.fs[j] (List.getElem_mem hj))
  have HJ : Hid ([rc.fs[j].ts][k]? = some rc.fs[j].ts) := hide (by rw [hk]; rfl)
  obtain ⟨At, ct, e⟩ := HS.out.1.shape
  rw [e] at k1 HS
  have hjm : j < m := by rw [hn]; exact hj
  generalize rc.fs[j].ts = xs at *
  clear k0 hc hn hj e hf hi HTB hi2 HNB hx hk
  go_enter Tryz.func89, Tryz.ntmps89
  go_wp2_with fail
  go_ret
  exact ⟨_, _, rfl, rfl, HJ, HS⟩
end
end Go.Proofs.YtnljdcghaecdaaaGreatDoor
namespace Go.Proofs.YtnljdcghaecdaaaGreatDoor
open Go.RowKit Go.Lib Go.Maps
attribute [local go_sem] Oper.semAt_some

theorem of_zero {T : Nat → Prop} {more : Nat} {W1 w' : World} {ns : List NodeD} {nv fv : Value} {cb at0 b : Nat} {ts : List Thing} {n : Nat} (ha : at0 ≤ b) (hb : b ≤ ns.length) (h : Hid (Lie W1.heap.size W1 w' (ts.set n (cur cb nv b fv)))) : OfTo T more W1 ns nv fv cb at0 ts n (.returned (.int .i64 0)) w' :=
  ⟨0, b, rfl, ha, hb, Nat.zero_le _, hide (fun h => absurd rfl h), h⟩
theorem pop2_set {B : Nat} {w0 w : World} {X Y : Thing} {ts : List Thing} {n : Nat} {a c : Thing} (h : Hid (Lie B w0 w ((X :: Y :: ts.set n a).set (n + 2) c))) : Hid (Lie B w0 w (ts.set n c)) := by
  have h1 : Lie B w0 w (X :: Y :: (ts.set n a).set n c) := h.out
  rw [List.set_set] at h1
  exact hide h1.pop.pop
set_option maxRecDepth 100000 in
set_option maxHeartbeats 8000000 in
theorem named_any (fr : ByteArray → RecD) {W1 : World} {ns : List NodeD} {nv fv : Value} (hns : Hid (NodesAt W1 nv ns)) (hnn : ns.length ≤ 100000) (rc : RecD) (w : World) (ts : List Thing) (n cb at0 : Nat) (IH : Hid (at0 < ns.length → OfAll fr W1 ns nv fv (ns.length - (at0 + 1)))) (hf : Hid (FieldsAt W1 rc.fv rc.fs)) (HTY : Hid (∀ f ∈ rc.fs, TyOk f.ts)) (hfl : rc.fs.length ≤ 1000)
    (hat : at0 ≤ ns.length) (hn : Hid (ts[n]? = some (cur cb nv at0 fv))) (L : Hid (Lie W1.heap.size W1 w ts)) :
    Calls Tryz.prog 60 #[.pointer (some ⟨cb, 0, none⟩), recv rc] w (OfTo (TakesR fr ns rc at0) 0 W1 ns nv fv cb at0 ts n) := by
  obtain ⟨A, c, efv⟩ := hf.out.1.shape
  rw [efv] at hf
  unfold recv
  rw [efv]
  obtain ⟨m, hm⟩ : ∃ m, m = rc.fs.length := ⟨_, rfl⟩
  have HM := hide hm
  rw [← hm] at hf hfl ⊢
  obtain ⟨ch, hch⟩ : ∃ ch, ch = rc.choice := ⟨_, rfl⟩
  have HCH := hide hch
  rw [← hch]
  obtain ⟨w2, r3, TB, HW2, HR2, HTB, S2⟩ := lay L (.cells #[.string rc.name, .bool ch, .slice A m c] 61)
  obtain ⟨t0, t1, t2⟩ := at3 S2 0 rfl HTB
  rw [HW2.out, HR2.out] at t0 t1 t2
  have S0 : Hid (Lie W1.heap.size W1 w2 (TB :: ts.set n (cur cb nv at0 fv))) := hide (by rw [set_self hn.out]; exact S2.out)
  clear efv hm hch
  cases ch with
  | true =>
    have C1 := hide (next_any 8 at0 (n + 1) hns hnn hat hn.out S2)
    go_enter Tryz.func60, Tryz.ntmps60
    go_wp2_with fail
    rw [← HW2.out, ← HR2.out]
    refine C1.out.mono ?_
    rintro e w3 ⟨x, ok, rfl, hok, hno⟩
    clear C1 t0 t1 t2
    cases ok with
    | false =>
      have S3 := hno rfl
      clear hok hno
      go_wp2_with fail
      go_ret
      exact of_zero (Nat.le_refl _) hat (hide (by rw [set_self hn.out]; exact (S3.out.skip _).pop))
    | true =>
      obtain ⟨hx, hk8, S3⟩ := hok rfl
      have S3 : Hid (Lie W1.heap.size W1 w3 (TB :: ts.set n (cur cb nv (at0 + 1) fv))) := S3
      have hlt := (List.getElem?_eq_some_iff.1 hx).1
      have HX := hide hx
      have HK8 := hide hk8
      clear hok hno hx hk8
      obtain ⟨w4, r5, NB, HW4, HR4, HNB, S4⟩ := lay S3 (.cells #[.int .u8 x.kind, .int .i64 x.num, .string x.text, .int .i64 x.kids] 46)
      obtain ⟨n0, n1, n2, n3⟩ := at4 S4 0 rfl HNB
      obtain ⟨t0, t1, t2⟩ := at3 S4 1 rfl HTB
      rw [HW4.out] at n0 n1 n2 n3 t0 t1 t2
      rw [HR4.out] at n0 n1 n2 n3
      have CB := hide (bare_any x true false true w4)
      have HBN : Hid (bareN x true false true = bareN x true false true) := hide rfl
      cases hbn : bareN x true false true with
      | false =>
        rw [hbn] at CB
        clear hbn HBN
        go_wp2_with fail
        rw [← HW4.out, ← HR4.out]
        refine CB.out.mono ?_
        rintro e w5 ⟨rfl, T5⟩
        have S5 := hide (S4.out.stay T5)
        go_wp2_with fail
        go_ret
        exact of_zero (by omega) (by omega) (hide S5.out.pop.pop)
      | true =>
        have HBT := hide hbn
        rw [hbn] at CB
        clear hbn HBN
        by_cases hq1 : x.kids = 1
        · have HQ1 := hide hq1
          have ek : (x.kids == 1) = true := by simp [hq1]
          have ek2 : (x.kids != 1) = false := by simp [hq1]
          clear hq1
          by_cases h0 : 0 ≤ x.num
          · by_cases hi : x.num < (m : Int)
            · have HJ : ∃ j : Nat, Hid (x.num = (j : Int)) := ⟨x.num.toNat, hide (by omega)⟩
              obtain ⟨j, HJ⟩ := HJ
              have hjl : j < rc.fs.length := by have := HM.out; have := HJ.out; omega
              have MN := hide (fun (w' : World) (S : Hid (Lie W1.heap.size W1 w' (NB :: TB :: ts.set n (cur cb nv (at0 + 1) fv)))) =>
                many_any fr (cnt := 1) (ns.length - (at0 + 1)) (hide (IH.out hlt)) hnn [rc.fs[j].ts] 89 #[.pointer (some ⟨r3, 0, none⟩), .pointer (some ⟨r5, 0, none⟩)] (hide (.inr ⟨_, _, rfl, rfl⟩)) w' _ (n + 2) cb (at0 + 1) rfl (by omega)
                  (hide (fun xs hxs => by simp at hxs; subst hxs; exact HTY.out _ (List.getElem_mem hjl)))
                  (hide (fun i w'' a' hi1 Lx => by
                    obtain rfl : i = 0 := by omega
                    exact field89 rc x A m c 1 0 j 0 HJ.out hjl hf (by have := HM.out; omega) rfl (by rw [← HCH.out]; exact HTB) rfl HNB Lx rfl))
                  (by omega) (Nat.le_refl _) (hide (set_get hn.out _)) S)
              have H0 := hide h0
              have TKS : Hid (∀ b, Takes fr ns [rc.fs[j].ts] (at0 + 1) b → TakesR fr ns rc at0 b) := hide (fun b ht => by
                have e : x.num.toNat = j := by rw [HJ.out]; rfl
                refine takes_choice HX.out HCH.out.symm HK8.out HBT.out HQ1.out H0.out (by rw [e]; exact hjl) ?_
                simp only [e]
                exact ht)
              go_wp2_with fail
              rw [← HW4.out, ← HR4.out]
              refine CB.out.mono ?_
              rintro e w5 ⟨rfl, T5⟩
              have S5 := hide (S4.out.stay T5)
              clear n0 n1 n2 n3 t0 t1 t2 CB T5
              obtain ⟨n0, n1, n2, n3⟩ := at4 S5 0 rfl HNB
              obtain ⟨t0, t1, t2⟩ := at3 S5 1 rfl HTB
              have M5 := hide (MN.out w5 S5)
              clear MN
              go_wp2_with fail
              refine M5.out.mono ?_
              rintro e w6 ⟨d, b, rfl, hab, hbn, hdb, HT6, S6⟩
              have S7 := pop2_set S6
              clear n0 n1 n2 n3 t0 t1 t2 M5 S6
              go_wp2_with fail
              go_ret
              exact ⟨d, b, rfl, by omega, hbn, by omega, hide (fun h => TKS.out b (HT6.out h)), S7⟩
            · have hi2 : (m : Int) ≤ x.num := by omega
              go_wp2_with fail
              rw [← HW4.out, ← HR4.out]
              refine CB.out.mono ?_
              rintro e w5 ⟨rfl, T5⟩
              have S5 := hide (S4.out.stay T5)
              clear n0 n1 n2 n3 t0 t1 t2 CB T5
              obtain ⟨n0, n1, n2, n3⟩ := at4 S5 0 rfl HNB
              obtain ⟨t0, t1, t2⟩ := at3 S5 1 rfl HTB
              go_wp2_with fail
              go_ret
              exact of_zero (by omega) (by omega) (hide S5.out.pop.pop)
          · have h02 : x.num < 0 := by omega
            go_wp2_with fail
            rw [← HW4.out, ← HR4.out]
            refine CB.out.mono ?_
            rintro e w5 ⟨rfl, T5⟩
            have S5 := hide (S4.out.stay T5)
            clear n0 n1 n2 n3 t0 t1 t2 CB T5
            obtain ⟨n0, n1, n2, n3⟩ := at4 S5 0 rfl HNB
            obtain ⟨t0, t1, t2⟩ := at3 S5 1 rfl HTB
            go_wp2_with fail
            go_ret
            exact of_zero (by omega) (by omega) (hide S5.out.pop.pop)
        · have ek : (x.kids == 1) = false := by simp [hq1]
          have ek2 : (x.kids != 1) = true := by simp [hq1]
          go_wp2_with fail
          rw [← HW4.out, ← HR4.out]
          refine CB.out.mono ?_
          rintro e w5 ⟨rfl, T5⟩
          have S5 := hide (S4.out.stay T5)
          clear n0 n1 n2 n3 t0 t1 t2 CB T5
          obtain ⟨n0, n1, n2, n3⟩ := at4 S5 0 rfl HNB
          obtain ⟨t0, t1, t2⟩ := at3 S5 1 rfl HTB
          go_wp2_with fail
          go_ret
          exact of_zero (by omega) (by omega) (hide S5.out.pop.pop)
  | false =>
    have C1 := hide (next_any 7 at0 (n + 1) hns hnn hat hn.out S2)
    go_enter Tryz.func60, Tryz.ntmps60
    go_wp2_with fail
    rw [← HW2.out, ← HR2.out]
    refine C1.out.mono ?_
    rintro e w3 ⟨x, ok, rfl, hok, hno⟩
    clear C1 t0 t1 t2
    cases ok with
    | false =>
      have S3 := hno rfl
      clear hok hno
      go_wp2_with fail
      go_ret
      exact of_zero (Nat.le_refl _) hat (hide (by rw [set_self hn.out]; exact (S3.out.skip _).pop))
    | true =>
      obtain ⟨hx, hk8, S3⟩ := hok rfl
      have S3 : Hid (Lie W1.heap.size W1 w3 (TB :: ts.set n (cur cb nv (at0 + 1) fv))) := S3
      have hlt := (List.getElem?_eq_some_iff.1 hx).1
      have HX := hide hx
      have HK8 := hide hk8
      clear hok hno hx hk8
      obtain ⟨w4, r5, NB, HW4, HR4, HNB, S4⟩ := lay S3 (.cells #[.int .u8 x.kind, .int .i64 x.num, .string x.text, .int .i64 x.kids] 46)
      obtain ⟨n0, n1, n2, n3⟩ := at4 S4 0 rfl HNB
      obtain ⟨t0, t1, t2⟩ := at3 S4 1 rfl HTB
      rw [HW4.out] at n0 n1 n2 n3 t0 t1 t2
      rw [HR4.out] at n0 n1 n2 n3
      have CB := hide (bare_any x false false true w4)
      cases hbn : bareN x false false true with
      | false =>
        rw [hbn] at CB
        clear hbn
        go_wp2_with fail
        rw [← HW4.out, ← HR4.out]
        refine CB.out.mono ?_
        rintro e w5 ⟨rfl, T5⟩
        have S5 := hide (S4.out.stay T5)
        go_wp2_with fail
        go_ret
        exact of_zero (by omega) (by omega) (hide S5.out.pop.pop)
      | true =>
        have HBT := hide hbn
        rw [hbn] at CB
        clear hbn
        by_cases hq1 : x.kids = (m : Int)
        · have HQ1 := hide hq1
          have MN := hide (fun (w' : World) (S : Hid (Lie W1.heap.size W1 w' (NB :: TB :: ts.set n (cur cb nv (at0 + 1) fv)))) =>
            many_any fr (cnt := m) (ns.length - (at0 + 1)) (hide (IH.out hlt)) hnn (rc.fs.map FieldD.ts) 90 #[.pointer (some ⟨r3, 0, none⟩)] (hide (.inl ⟨_, rfl, .inr (.inr rfl)⟩)) w' _ (n + 2) cb (at0 + 1) (by rw [HM.out]; simp) (by omega)
              (hide (fun xs hxs => by
                obtain ⟨f, hf2, rfl⟩ := List.mem_map.1 hxs
                exact HTY.out f hf2))
              (hide (fun i w'' a' hi1 Lx => field90 rc A m c 1 i (by have := HM.out; omega) hf (by have := HM.out; omega) rfl (by rw [← HCH.out]; exact HTB) Lx))
              (by omega) (Nat.le_refl _) (hide (set_get hn.out _)) S)
          have TKS : Hid (∀ b, Takes fr ns (rc.fs.map FieldD.ts) (at0 + 1) b → TakesR fr ns rc at0 b) := hide (fun b ht => takes_record HX.out HCH.out.symm HK8.out HBT.out (by rw [HQ1.out, HM.out]) ht)
          have ek : (x.kids == (m : Int)) = true := by simp [hq1]
          have ek2 : (x.kids != (m : Int)) = false := by simp [hq1]
          clear hq1
          go_wp2_with fail
          rw [← HW4.out, ← HR4.out]
          refine CB.out.mono ?_
          rintro e w5 ⟨rfl, T5⟩
          have S5 := hide (S4.out.stay T5)
          clear n0 n1 n2 n3 t0 t1 t2 CB T5
          obtain ⟨n0, n1, n2, n3⟩ := at4 S5 0 rfl HNB
          obtain ⟨t0, t1, t2⟩ := at3 S5 1 rfl HTB
          have M5 := hide (MN.out w5 S5)
          rw [← HQ1.out] at M5
          clear MN
          go_wp2_with fail
          refine M5.out.mono ?_
          rintro e w6 ⟨d, b, rfl, hab, hbn, hdb, HT6, S6⟩
          have S7 := pop2_set S6
          clear n0 n1 n2 n3 t0 t1 t2 M5 S6
          go_wp2_with fail
          go_ret
          exact ⟨d, b, rfl, by omega, hbn, by omega, hide (fun h => TKS.out b (HT6.out h)), S7⟩
        · have ek : (x.kids == (m : Int)) = false := by simp [hq1]
          have ek2 : (x.kids != (m : Int)) = true := by simp [hq1]
          go_wp2_with fail
          rw [← HW4.out, ← HR4.out]
          refine CB.out.mono ?_
          rintro e w5 ⟨rfl, T5⟩
          have S5 := hide (S4.out.stay T5)
          clear n0 n1 n2 n3 t0 t1 t2 CB T5
          obtain ⟨n0, n1, n2, n3⟩ := at4 S5 0 rfl HNB
          obtain ⟨t0, t1, t2⟩ := at3 S5 1 rfl HTB
          go_wp2_with fail
          go_ret
          exact of_zero (by omega) (by omega) (hide S5.out.pop.pop)
end Go.Proofs.YtnljdcghaecdaaaGreatDoor
