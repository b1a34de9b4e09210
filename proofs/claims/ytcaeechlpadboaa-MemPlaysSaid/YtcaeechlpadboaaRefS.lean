/-
  The document's Same.
-/
import Derived.Test.YtcaeechlpadboaaRefW
namespace Go.Proofs.Ytcaeechlpadboaa
open Go.RowKit Go.Maps Go.Shelf
attribute [local go_sem] Oper.semAt_some

/-! ### Same -/
abbrev pv (p : Pr) : Value := .agg #[.string p.1, .string p.2]
def prEq (p q : Pr) : Bool := (p.1.toList == q.1.toList) && (p.2.toList == q.2.toList)
theorem prEq_is (p q : Pr) : prEq p q = decide (p = q) := by
  obtain ⟨a, b⟩ := p
  obtain ⟨c, d⟩ := q
  unfold prEq
  simp only [str_eq]
  by_cases h1 : a = c <;> by_cases h2 : b = d <;> simp [h1, h2]
theorem list2 {α : Type} {l : List α} (h : l.length = 2) : ∃ a b, l = [a, b] := by
  match l, h with
  | [a, b], _ => exact ⟨a, b, rfl⟩
theorem held25 : Try.prog.stoodInHeld 25 = false := by kernel_rfl
theorem pp0 (v0 v1 : ByteArray) (w : World) : (part 9 #[.string v0, .string v1] 0).run Try.prog w = .ok (.string v0) w := by kernel_rfl
theorem pp1 (v0 v1 : ByteArray) (w : World) : (part 9 #[.string v0, .string v1] 1).run Try.prog w = .ok (.string v1) w := by kernel_rfl
theorem eqIn_pr (p q : Pr) (w : World) : (Op.equalIn 10000 25 (pv p) (pv q)).run Try.prog w = .ok (prEq p q) w := by
  have e := run_equalIn_struct (P := Try.prog) w 9999 25 #[.string p.1, .string p.2] #[.string q.1, .string q.2] (by simp only [Program.fieldsOf, Try.underlying25]) held25
  refine e.trans ?_
  clear e
  have hf : (Try.prog.fieldsOf 25).toList.map (fun f => (f.name == "_", f.type, f.offset)) = [(false, 9, 0), (false, 9, 1)] := by kernel_rfl
  have hlen : (Try.prog.fieldsOf 25).toList.length = 2 := by kernel_rfl
  obtain ⟨f0, f1, hl⟩ := list2 hlen
  rw [hl] at hf ⊢
  simp only [List.map_cons, List.map_nil, List.cons.injEq, Prod.mk.injEq, beq_eq_false_iff_ne] at hf
  obtain ⟨⟨n0, t0, o0⟩, ⟨n1, t1, o1⟩, _⟩ := hf
  simp only [Op.eqFields, n0, n1, ne_eq, not_false_eq_true, if_true, Sem.run_bind, Sem.run_ite, Sem.run_pure, t0, t1, o0, o1, pp0, pp1, Result.andThen_ok, run_equalIn_string w 9998 9 _ _ Try.underlying9]
  unfold prEq
  cases p.1.toList == q.1.toList <;> cases p.2.toList == q.2.toList <;> simp
theorem run_neq_pr (p q : Pr) (w : World) : (binOp .neq 25 (pv p) (pv q)).run Try.prog w = .ok (.bool (!prEq p q)) w := by
  simp only [binOp]
  simp [Op.equal, Op.maxDepth, eqIn_pr p q w]
set_option maxRecDepth 100000 in
set_option maxHeartbeats 4000000 in
theorem refsame_any (xs ys : List Pr) (v u : Value) (w : World) (h : Rd w 2 v xs.length (xs.flatMap prc)) (h2 : Rd w 2 u ys.length (ys.flatMap prc)) (hn : xs.length ≤ 100000) (_hn2 : ys.length ≤ 100000) :
    Calls Try.prog 45 #[v, u] w fun e w' => e = .returned (.bool (decide (xs = ys))) ∧ Turn (fun _ => False) w w' := by
  obtain ⟨A, c, rfl⟩ := h.shape
  obtain ⟨A2, c2, rfl⟩ := h2.shape
  have H := hide h
  have H2 := hide h2
  clear h h2
  by_cases hl : xs.length = ys.length
  · obtain ⟨n, hnn⟩ : ∃ n, n = xs.length := ⟨_, rfl⟩
    have HN := hide hnn
    have HN2 : Hid (n = ys.length) := hide (hnn.trans hl)
    rw [← hnn] at hn
    clear hnn hl _hn2
    rw [← HN.out, ← HN2.out]
    go_enter Try.func45, Try.ntmps45
    go_wp2_with fail
    go_loopw [5] (fun i wr => ∃ q : Nat, q ≤ n ∧ i = .int .i64 q ∧ Hid (xs.take q = ys.take q) ∧ Hid (∃ d, wr = w.drewN d)) (fun i _ => n - (intOf i).toNat)
    case atStart => exact ⟨0, by omega, rfl, hide (by simp), hide ⟨0, rfl⟩⟩
    case round =>
      obtain ⟨q, hq, rfl, HI, HD⟩ := hrel
      by_cases hlt : q < n
      · have hqx : q < xs.length := by have := HN.out; omega
        have hqy : q < ys.length := by have := HN2.out; omega
        have t : Turn (fun _ => False) w wr := by obtain ⟨d, hd⟩ := HD.out; rw [hd]; exact (Turn.refl _ w).drewN _
        obtain ⟨b, o, rfl, hb, hc⟩ := pair_at xs H.out (by omega)
        obtain ⟨k1, k2⟩ := hc q hqx
        have d1 := (t.cell (p := ⟨b, o + q * 2, none⟩) hb (fun h => h)).trans k1
        have d2 := (t.cell (p := ⟨b, o + q * 2 + 1, none⟩) hb (fun h => h)).trans k2
        obtain ⟨b2, o2, rfl, hb2, hc2⟩ := pair_at ys H2.out (by omega)
        obtain ⟨k3, k4⟩ := hc2 q hqy
        have d3 := (t.cell (p := ⟨b2, o2 + q * 2, none⟩) hb2 (fun h => h)).trans k3
        have d4 := (t.cell (p := ⟨b2, o2 + q * 2 + 1, none⟩) hb2 (fun h => h)).trans k4
        have hneq := fun W => run_neq_pr xs[q] ys[q] W
        by_cases he : xs[q] = ys[q]
        · have HT : Hid (xs.take (q + 1) = ys.take (q + 1)) := hide (by rw [List.take_succ_eq_append_getElem hqx, List.take_succ_eq_append_getElem hqy, HI.out, he])
          rw [prEq_is, decide_eq_true he] at hneq
          simp only [pv, Bool.not_true] at hneq
          generalize xs[q] = x at *
          generalize ys[q] = y at *
          clear hc hc2 k1 k2 k3 k4 he t
          go_wp2_with fail
          go_quiet (fail)
          go_wp2_with fail
          go_roundw
          case rel => exact ⟨q + 1, by omega, by go_num, HT, hide (by obtain ⟨d, hd⟩ := HD.out; rw [hd]; exact ⟨_, World.drewN_drewN ..⟩)⟩
          case measure => simp [intOf]; omega
        · have HF : Hid (decide (xs = ys) = false) := hide (decide_eq_false (fun e => he (by subst e; rfl)))
          rw [prEq_is, decide_eq_false he] at hneq
          simp only [pv, Bool.not_false] at hneq
          generalize xs[q] = x at *
          generalize ys[q] = y at *
          clear hc hc2 k1 k2 k3 k4 he t
          go_wp2_with fail
          go_quiet (fail)
          go_wp2_with fail
          go_ret
          exact ⟨by rw [HF.out]; rfl, by obtain ⟨d, hd⟩ := HD.out; rw [hd]; exact ((Turn.refl _ w).drewN _).drewN _⟩
      · obtain rfl : q = n := by omega
        have HT : Hid (decide (xs = ys) = true) := hide (by
          have h1 := HI.out
          rw [HN.out, List.take_length, ← HN.out, HN2.out, List.take_length] at h1
          exact decide_eq_true h1)
        go_wp2_with fail
        go_ret
        exact ⟨by rw [HT.out]; rfl, by obtain ⟨d, hd⟩ := HD.out; rw [hd]; exact (Turn.refl _ w).drewN _⟩
  · have HF : Hid (decide (xs = ys) = false) := hide (decide_eq_false (fun e => hl (by rw [e])))
    generalize xs.length = m at *
    generalize ys.length = k at *
    have hne : ((m : Int) == (k : Int)) = false := by simp; omega
    go_enter Try.func45, Try.ntmps45
    go_wp2_with fail
    go_ret
    exact ⟨by rw [HF.out]; rfl, Turn.refl _ _⟩
end Go.Proofs.Ytcaeechlpadboaa
