/-
  The document's net: Lose, Come, Dup.
-/
import Derived.Test.YtniiikgkeiomoaaDoc2
import Derived.RangeFuncOwn
namespace Go.Proofs.Ytniiikgkeiomoaa
open Go.RowKit Go.Maps

theorem step_call {P : Program} {w : World} {ops : Array Oper} {o : Oper} {a : Act} {K : Act → World → Prop} {Q : Exit → Act → World → Prop} {E : Prop} (hgd : o.guard = none) (f : Nat) (xs : Array Operand) (ts : Array TypeId)
    (ho : o.op = .call { callee := .value (.func f), args := xs, argTypes := ts }) (eg : ∀ args w, (callFunc f args).run P w = .ok (.enter f args) w) (args : Array Value) (hargs : xs.map a.eval = args) (v : Value)
    (hc : Calls P f args w fun e w' => e = .returned v ∧ w = w') (hK : K (a.put o.dst v) w) :
    if Region.wanted o (yielded ops a.tmps) = true then Oper.wp P o a w K Q else E := by
  have hw : Region.wanted o (yielded ops a.tmps) = true := by simp [Region.wanted, hgd]
  rw [if_pos hw]
  unfold Oper.wp execOp
  subst hargs
  simp [ho, resolve, invoke, go_sem, eg, Oper.upon_enter]
  refine hc.mono ?_
  rintro e w' ⟨rfl, rfl⟩
  exact hK
theorem enters34 : ∀ args w, (callFunc 34 args).run Try.prog w = .ok (.enter 34 args) w := enters_of Try.func34 (by kernel_rfl) rfl

section
variable {base : Nat} {w0 w : World} {ts : List Thing} {dn : Nat} {v1 v2 : Value} {ps : List Pk} {ws : List (Int × Int)}
theorem doc_alloc (h : Lie base w0 w (docT base dn v1 v2 ps ws ts)) (o : Obj) : Lie base w0 (w.alloc o) (docT base dn v1 v2 ps ws (box w.heap.size o :: ts)) :=
  (h.alloc o).pick (fun i => if i = 0 then 1 else if i = 1 then 2 else if i = 2 then 3 else if i = 3 then 0 else i) (fun i j _ _ e => by
    by_cases a0 : i = 0 <;> by_cases a1 : i = 1 <;> by_cases a2 : i = 2 <;> by_cases a3 : i = 3 <;> by_cases b0 : j = 0 <;> by_cases b1 : j = 1 <;> by_cases b2 : j = 2 <;> by_cases b3 : j = 3 <;> simp [a0, a1, a2, a3, b0, b1, b2, b3] at e <;> omega) (fun i u hu => by
    match i with
    | 0 => exact hu
    | 1 => exact hu
    | 2 => exact hu
    | 3 => exact hu
    | i + 4 => simpa using hu)

theorem dlose_empty (h : Lie base w0 w (docT base dn v1 v2 [] ws ts)) (i : Int) : Calls Try.prog 31 #[.pointer (some ⟨dn, 0, none⟩), .int .i64 i] w (DocTells (.bool false) base w0 dn [] ws ts) := by
  have h1 : w.heap[dn]? = some (.cells #[v1, v2] 61 (0, 0)) := h.get 0 rfl
  obtain ⟨A, c, rfl⟩ := (Rd.of_own (h.get 1 rfl)).shape
  have c0 := (cell2 h1).1
  rw [show ([] : List Pk).length = 0 from rfl] at c0
  have H := hide h
  clear h h1
  go_enter Try.func31, Try.ntmps31
  go_wp2
  go_ret
  exact ⟨rfl, _, _, H.out⟩
theorem dlose (h : Lie base w0 w (docT base dn v1 v2 ps ws ts)) (i : Int) (hp : 0 < ps.length) (hm : ps.length ≤ 1000000) (hi : (Lit.int .i64 i).wf = true) : Calls Try.prog 31 #[.pointer (some ⟨dn, 0, none⟩), .int .i64 i] w (DocTells (.bool true) base w0 dn (lostTo ps i) ws ts) := by
  have h1 : w.heap[dn]? = some (.cells #[v1, v2] 61 (0, 0)) := h.get 0 rfl
  obtain ⟨A, c, rfl⟩ := (Rd.of_own (h.get 1 rfl)).shape
  have c0 := (cell2 h1).1
  have hne : ((ps.length : Int) == 0) = false := beq_eq_false_iff_ne.2 (by omega)
  have H := hide h
  have HL := hide (show lostTo ps i = ps.eraseIdx (at_ i ps.length) from rfl)
  have hat := hide (at_lt i ps.length hp)
  have HI := hide hi
  clear h h1 hi
  go_enter Try.func31, Try.ntmps31
  go_wp2_with fail
  refine (dplace i ps.length w hp hm HI.out).mono ?_
  rintro e w' ⟨rfl, rfl⟩
  go_wp2_with fail
  refine (dwithout H.out (at_ i ps.length) hat.out hm).mono ?_
  rintro e w2 ⟨rfl, v1', v2', s2⟩
  have S2 := hide s2
  clear s2
  go_wp2_with fail
  go_ret
  exact ⟨rfl, _, _, S2.out⟩

theorem ddup_no (h : Lie base w0 w (docT base dn v1 v2 ps ws ts)) (i : Int) (hno : dupOk ps = false) : Calls Try.prog 32 #[.pointer (some ⟨dn, 0, none⟩), .int .i64 i] w (DocTells (.bool false) base w0 dn ps ws ts) := by
  have h1 : w.heap[dn]? = some (.cells #[v1, v2] 61 (0, 0)) := h.get 0 rfl
  obtain ⟨A, c, rfl⟩ := (Rd.of_own (h.get 1 rfl)).shape
  have c0 := (cell2 h1).1
  have H := hide h
  clear h h1
  unfold dupOk at hno
  rw [decide_eq_false_iff_not] at hno
  by_cases hz : ps.length = 0
  · obtain rfl : ps = [] := List.eq_nil_of_length_eq_zero hz
    rw [show ([] : List Pk).length = 0 from rfl] at c0
    clear hno hz
    go_enter Try.func32, Try.ntmps32
    go_wp2
    go_ret
    exact ⟨rfl, _, _, H.out⟩
  · have hne : ((ps.length : Int) == 0) = false := beq_eq_false_iff_ne.2 (by omega)
    have hge : (1024 : Int) ≤ ps.length := by omega
    clear hno hz
    go_enter Try.func32, Try.ntmps32
    go_wp2
    go_ret
    exact ⟨rfl, _, _, H.out⟩

set_option maxRecDepth 100000 in
set_option maxHeartbeats 4000000 in
theorem ddup (h : Lie base w0 w (docT base dn v1 v2 ps ws ts)) (i : Int) (hp : 0 < ps.length) (hm : ps.length < 1024) (hi : (Lit.int .i64 i).wf = true) (j : Nat) (hj : j = at_ i ps.length) (hjl : j < ps.length) :
    Calls Try.prog 32 #[.pointer (some ⟨dn, 0, none⟩), .int .i64 i] w (DocTells (.bool true) base w0 dn (ps ++ [ps[j]]) ws ts) := by
  obtain ⟨i0, hinf, hz0, hz1, hz2⟩ := info_parts info25
  have h1 : w.heap[dn]? = some (.cells #[v1, v2] 61 (0, 0)) := h.get 0 rfl
  have own : w.ownsRow base 25 3 v1 ps.length (ps.flatMap pkCells) := h.get 1 rfl
  obtain ⟨g, cap, rfl, hbg, hgl⟩ := own.form hp
  have hbase := h.base_le
  have c0 := (cell2 h1).1
  have c0f := (cell2 h1).2.2
  obtain ⟨b, o, hbo, hbl, q0, q1, q2⟩ := rd_pk (Rd.of_own own) j hjl
  injection hbo with hbo
  injection hbo with e1 e2
  subst e1 e2
  rw [Nat.zero_add] at q0 q1 q2
  obtain ⟨P, hP⟩ : ∃ P, P = ps[j] := ⟨_, rfl⟩
  rw [← hP] at q0 q1 q2 ⊢
  have c0a := (World.cell?_alloc_lt w (.cells #[.int .i64 P.from_, .int .i64 P.to_, .string P.data] 25) _ (box_lt h1)).trans c0
  have hne : ((ps.length : Int) == 0) = false := beq_eq_false_iff_ne.2 (by omega)
  have hge : ¬ (1024 : Int) ≤ ps.length := by omega
  have hki : (j : Int) < (ps.length : Int) := by omega
  have H := hide h
  have H1 := hide h1
  have HP := hide (fun w' => (dplace i ps.length w' hp (by omega) hi))
  rw [← hj] at HP
  have OWN := hide own
  clear h h1 hi hj own hP
  go_enter Try.func32, Try.ntmps32
  go_wp2_with fail
  go_region_law (first
    | (refine step_call rfl 34 _ _ rfl enters34 #[.int .i64 i, .int .i64 ps.length] (by simp [Act.eval, Act.put]) (.int .i64 j) (HP.out _) ?_)
    | (refine step_append_lies _ rfl (.tmp 27) (.tmp 41) 22 rfl base 25 i0 _ 3 32 Try.underlying22 hinf hz0 hz1 hz2 rfl (by decide) (.slice (some ⟨g, 0, none⟩) ps.length cap) ps.length (ps.flatMap pkCells) (by simp [Act.eval]) (by exact OWN.out.alloc _) ⟨w.heap.size, 0, none⟩ 1 1 (pkCells P) (by simp [Act.eval]) rfl (by exact cells_new w (pkCells P) 25) (pk_oneCell P) (by omega) (by unfold maxLen; omega) (by omega) (by simp; omega) _ rfl ?_; intro g3 cap3 w3 own3 grow3 hat3 hlt3; have t3 : Turn (fun k => (Value.slice (some ⟨g, 0, none⟩) ps.length cap).ownBlock = some k) w w3 := (((Turn.refl _ w).alloc (.cells (pkCells P).toArray 25)).drew).grown grow3 (fun k _ hk => hk); have g4 := Turn.obj_own H1.out (by intro _ _ e; cases e) OWN.out t3; have k0 := (cell2 g4).1; have k0f := (cell2 g4).2.2))
  all_goals
    have own3' : w3.ownsRow base 25 3 (.slice (some ⟨g3, 0, none⟩) (ps ++ [P]).length cap3) (ps ++ [P]).length ((ps ++ [P]).flatMap pkCells) := by simpa using own3
    have fin := doc_row (ps' := ps ++ [P]) H.out t3 own3' (fun g' hg => by
      have hg2 : g3 = g' := Option.some.inj hg
      subst hg2
      exact hat3.elim .inl (fun e => .inr (by simp at e; omega)))
    rw [List.length_append] at fin
    have FIN := hide fin
    clear fin own3 own3' k0 k0f c0 c0f c0a q0 q1 q2 g4
    go_wp2
    go_ret
    exact ⟨rfl, _, _, FIN.out⟩
end
end Go.Proofs.Ytniiikgkeiomoaa
