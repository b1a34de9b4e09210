/-
  New and Send.
-/
import Derived.Test.YtniiikgkeiomoaaNet
import Derived.Deep.RegionLaw
namespace Go.Proofs.Ytniiikgkeiomoaa
open Go.RowKit Go.Maps

theorem info25 : (Try.prog.info? 25).map (fun i => (i.zero, i.size, i.bytes)) = some (some (.agg #[.int .i64 0, .int .i64 0, .string ⟨#[]⟩]), 3, 32) := by kernel_rfl

structure NetTo (w : World) (base nb : Nat) (ps : List Pk) (C : Cuts) (w' : World) : Prop where
  net : IsNet w' base nb ps C
  below : Below base w w'

theorem new_net (base : Nat) (w : World) (hb : base ≤ w.heap.size) : Calls Try.prog 11 #[] w fun e w' => e = .returned (.pointer (some ⟨w.heap.size + 1, 0, none⟩)) ∧ IsNet w' base (w.heap.size + 1) [] Cuts.none ∧ Turn (fun _ => False) w w' := by
  have hmm := @run_makeMap Try.prog
  go_enter Try.func11, Try.ntmps11
  go_wp2
  go_ret
  refine ⟨rfl, ⟨⟨.slice none 0 0, w.heap.size, ?_, World.ownsRow_nil _ _ _ _, ?_, hb, by omega⟩, by simp⟩, ((Turn.refl _ w).alloc _).alloc _⟩
  · have := heap_alloc_new (w.alloc (.map #[] 0)) (.cells #[.slice none 0 0, .map (some w.heap.size)] 50)
    simpa only [World.size_alloc] using this
  · exact (CutMap.made w).turn ((Turn.refl (fun _ => False) _).alloc _) (fun h => h)

theorem send_long (nb : Option Addr) (p : Pk) (w : World) (hd : 8192 < p.data.size) :
    Calls Try.prog 12 #[.pointer nb, p.v] w (Same (.bool false) w) := by
  have hd' : (8192 : Int) < p.data.size := by omega
  cases nb with
  | none =>
    go_enter Try.func12, Try.ntmps12
    go_wp2
    go_ret
    exact ⟨rfl, (Turn.refl _ w).alloc _⟩
  | some a =>
    go_enter Try.func12, Try.ntmps12
    go_wp2
    go_ret
    exact ⟨rfl, (Turn.refl _ w).alloc _⟩
theorem send_nil (p : Pk) (w : World) : Calls Try.prog 12 #[.pointer none, p.v] w (Same (.bool false) w) := by
  go_enter Try.func12, Try.ntmps12
  go_wp2
  go_ret
  exact ⟨rfl, (Turn.refl _ w).alloc _⟩

theorem Turn.obj_own {w w' : World} {b : Nat} {o : Obj} {base : Nat} {e : TypeId} {size : Nat} {v : Value} {n : Nat} {xs : List Value} (ho : w.heap[b]? = some o) (hno : ∀ cur fz, o ≠ .cells cur e fz) (hown : w.ownsRow base e size v n xs)
    (t : Turn (fun k => v.ownBlock = some k) w w') : w'.heap[b]? = some o := t.obj ho (fun h => ownsRow_other hown ho hno h)
theorem CutMap.own {w w' : World} {m base : Nat} {C : Cuts} {e : TypeId} {size : Nat} {v : Value} {n : Nat} {xs : List Value} (h : CutMap w m C) (hown : w.ownsRow base e size v n xs) (t : Turn (fun k => v.ownBlock = some k) w w') : CutMap w' m C := by
  obtain ⟨es, cl, h1⟩ := h.isMap
  exact h.turn t (fun hm => ownsRow_other hown h1 (fun _ _ e => by cases e) hm)
theorem turn_own {w w' : World} {base : Nat} {e : TypeId} {size : Nat} {v : Value} {n : Nat} {xs : List Value} (hown : w.ownsRow base e size v n xs) (t : Turn (fun k => v.ownBlock = some k) w w') : Turn (base ≤ ·) w w' :=
  t.mono fun _ _ h => (ownsRow_base hown h).1

theorem pk_oneCell (p : Pk) : ∀ u ∈ pkCells p, u.oneCell' = true := by
  intro u hu
  simp only [pkCells, List.mem_cons, List.not_mem_nil, or_false] at hu
  rcases hu with rfl | rfl | rfl <;> rfl

section
variable {w w' : World} {base nb : Nat} {ps : List Pk} {C : Cuts}
theorem IsNet.lt (h : IsNet w base nb ps C) : nb < w.heap.size := by
  obtain ⟨⟨v, m, h1, _⟩, _⟩ := h
  exact (Array.getElem?_eq_some_iff.1 h1).1
theorem IsNet.base_le (h : IsNet w base nb ps C) : base ≤ w.heap.size := by
  have := h.lt
  obtain ⟨⟨v, m, _, _, _, _, hb⟩, _⟩ := h
  omega
/-- The net stays where none of its blocks turns. -/
theorem IsNet.turn0 (h : IsNet w base nb ps C) (t : Turn (fun _ => False) w w') : IsNet w' base nb ps C := by
  obtain ⟨⟨v, m, h1, h2, h3, h4⟩, ho⟩ := h
  exact ⟨⟨v, m, t.obj h1 (fun h => h), ownsRow_turn h2 t (fun _ _ h => h), h3.turn t (fun h => h), h4⟩, ho⟩
theorem set0 {b : Nat} {v0 v1 u : Value} {t : TypeId} (h : w.heap[b]? = some (.cells #[v0, v1] t (0, 0))) : (w.setCell ⟨b, 0, none⟩ u).heap[b]? = some (.cells #[u, v1] t (0, 0)) := by
  simp [World.setCell, Array.getElem?_modify, h]
end

set_option maxRecDepth 100000 in
theorem send_full (base nb : Nat) (ps : List Pk) (C : Cuts) (p : Pk) (w : World) (h : IsNet w base nb ps C) (hd : p.data.size ≤ 8192) (hl : 1024 ≤ ps.length) :
    Calls Try.prog 12 #[.pointer (some ⟨nb, 0, none⟩), p.v] w (Same (.bool false) w) := by
  have hb := h.lt
  obtain ⟨⟨v, m, h1, h2, _⟩, _⟩ := h
  obtain ⟨A, c, rfl⟩ := (Rd.of_own h2).shape
  have c0 := (cell2 h1).1
  have c0' : (w.alloc (.cells #[.int .i64 p.from_, .int .i64 p.to_, .string p.data] 25)).cell? ⟨nb, 0, none⟩ = some (.slice A ps.length c) := (World.cell?_alloc_lt _ _ _ hb).trans c0
  have hd' : ¬ (8192 : Int) < p.data.size := by omega
  clear h1 h2 c0
  go_enter Try.func12, Try.ntmps12
  go_wp2
  go_ret
  exact ⟨rfl, (Turn.refl _ w).alloc _⟩

set_option maxRecDepth 100000 in
/-- The way is cut: it is lost. -/
theorem send_cut (base nb : Nat) (ps : List Pk) (C : Cuts) (p : Pk) (w : World) (h : IsNet w base nb ps C) (hd : p.data.size ≤ 8192) (hl : ps.length < 1024) (hp : p.ok) (hc : cutOf C p = true) :
    Calls Try.prog 12 #[.pointer (some ⟨nb, 0, none⟩), p.v] w (Same (.bool true) w) := by
  have hb := h.lt
  have H := hide h
  obtain ⟨⟨v, m, h1, h2, h3, _⟩, _⟩ := h
  obtain ⟨A, c, rfl⟩ := (Rd.of_own h2).shape
  obtain ⟨W, hW⟩ : ∃ W, W = w.alloc (.cells #[.int .i64 p.from_, .int .i64 p.to_, .string p.data] 25) := ⟨_, rfl⟩
  have tW : Turn (fun _ => False) w W := by rw [hW]; exact (Turn.refl _ w).alloc _
  have c0 := (cell2 (tW.obj h1 (fun h => h))).1
  have c1 := (cell2 (tW.obj h1 (fun h => h))).2.1
  have hm := h3.turn tW (fun h => h)
  have hd' : ¬ (8192 : Int) < p.data.size := by omega
  rw [hW] at c0
  have HW := hide hW
  clear h1 h2 h3 hW
  go_enter Try.func12, Try.ntmps12
  go_wp2_with fail
  rw [← HW.out]
  refine (closed_any nb m C p W hp c1 hm).mono ?_
  rintro e w1 ⟨rfl, t1⟩
  rw [hc]
  go_wp2_with fail
  go_ret
  exact ⟨rfl, tW.trans t1⟩

/-- The blocks of a net that its packets may turn: its own, and its row's. -/
def NetB (w : World) (nb k : Nat) : Prop := k = nb ∨ ∃ v x, w.heap[nb]? = some (.cells #[v, x] 50 (0, 0)) ∧ v.ownBlock = some k
theorem NetB.lt {w : World} {base nb : Nat} {ps : List Pk} {C : Cuts} (h : IsNet w base nb ps C) {k : Nat} (hk : NetB w nb k) : base ≤ k ∧ k < w.heap.size := by
  have hl := h.lt
  obtain ⟨⟨v, m, h1, h2, _, _, h5⟩, _⟩ := h
  rcases hk with rfl | ⟨v', x, h3, h4⟩
  · exact ⟨h5, hl⟩
  · rw [h1] at h3
    injection h3 with h3
    injection h3 with h3
    obtain rfl : v = v' := by simpa using congrArg (fun a => a.getD 0 undef) h3
    exact ownsRow_base h2 h4
/-- What Send leaves where the packet goes. -/
structure NetDo (w : World) (base nb : Nat) (ps : List Pk) (C : Cuts) (w' : World) : Prop where
  net : IsNet w' base nb ps C
  turn : Turn (NetB w nb) w w'
  cell1 : w'.cell? ⟨nb, 1, none⟩ = w.cell? ⟨nb, 1, none⟩
  rows : ∀ k, NetB w' nb k → NetB w nb k ∨ w.heap.size ≤ k
/-- Where the row lies is all that is asked. -/
theorem rows_of {w w' : World} {nb g n cap : Nat} {x : Value} (h : w'.heap[nb]? = some (.cells #[.slice (some ⟨g, 0, none⟩) n cap, x] 50 (0, 0))) (hg : NetB w nb g ∨ w.heap.size ≤ g) : ∀ k, NetB w' nb k → NetB w nb k ∨ w.heap.size ≤ k := by
  rintro k (rfl | ⟨v, y, h1, h2⟩)
  · exact .inl (.inl rfl)
  · rw [h] at h1
    injection h1 with h1
    injection h1 with h1
    obtain rfl : Value.slice (some ⟨g, 0, none⟩) n cap = v := by simpa using congrArg (fun a => a.getD 0 undef) h1
    obtain rfl : g = k := Option.some.inj h2
    exact hg
def NetPost (v : Value) (w : World) (base nb : Nat) (ps : List Pk) (C : Cuts) (e : Ending) (w' : World) : Prop := e = .returned v ∧ NetDo w base nb ps C w'

/-- Behind the append and the store. -/
theorem net_stored {w w2 : World} {base nb m g cap : Nat} {v0 : Value} {ps : List Pk} {C : Cuts} (t : Turn (NetB w nb) w w2) (h1 : w2.heap[nb]? = some (.cells #[v0, .map (some m)] 50 (0, 0))) (hm : CutMap w2 m C) (hbm : base ≤ m) (hbn : base ≤ nb)
    (own : w2.ownsRow base 25 3 (.slice (some ⟨g, 0, none⟩) ps.length cap) ps.length (ps.flatMap pkCells)) (hok : ∀ p ∈ ps, p.ok) (hg : NetB w nb g ∨ w.heap.size ≤ g) (hw : w.cell? ⟨nb, 1, none⟩ = some (.map (some m))) : NetDo w base nb ps C (w2.setCell ⟨nb, 0, none⟩ (.slice (some ⟨g, 0, none⟩) ps.length cap)) := by
  have ts : Turn (· = nb) w2 (w2.setCell ⟨nb, 0, none⟩ (.slice (some ⟨g, 0, none⟩) ps.length cap)) := (Turn.refl (· = nb) w2).setCell (p := ⟨nb, 0, none⟩) (fun _ => rfl) _
  refine ⟨⟨⟨_, m, set0 h1, ownsRow_turn own ts (fun k hk e => ownsRow_other own h1 (fun _ _ e => by cases e) (e ▸ hk)), hm.turn ts (fun e => ?_), hbm, hbn⟩, hok⟩, t.trans (ts.mono fun k _ e => .inl e), (cell2 (set0 h1)).2.1.trans hw.symm, rows_of (set0 h1) hg⟩
  obtain ⟨es, cl, h2⟩ := hm.isMap
  rw [e, h1] at h2
  cases h2

set_option maxRecDepth 100000 in
set_option maxHeartbeats 2000000 in
theorem send_go (base nb : Nat) (ps : List Pk) (C : Cuts) (p : Pk) (w : World) (h : IsNet w base nb ps C) (hd : p.data.size ≤ 8192) (hl : ps.length < 1024) (hp : p.ok) (hc : cutOf C p = false) :
    Calls Try.prog 12 #[.pointer (some ⟨nb, 0, none⟩), p.v] w (NetPost (.bool true) w base nb (ps ++ [p]) C) := by
  obtain ⟨i0, hi, hz0, hz1, hz2⟩ := info_parts info25
  have hb := h.lt
  have hbase := h.base_le
  have H := hide h
  obtain ⟨⟨v, m, h1, h2, h3, h4, h5⟩, hok⟩ := h
  obtain ⟨A, c, rfl⟩ := (Rd.of_own h2).shape
  obtain ⟨W, hW⟩ : ∃ W, W = w.alloc (.cells #[.int .i64 p.from_, .int .i64 p.to_, .string p.data] 25) := ⟨_, rfl⟩
  have tW : Turn (fun _ => False) w W := by rw [hW]; exact (Turn.refl _ w).alloc _
  have c0 := (cell2 (tW.obj h1 (fun h => h))).1
  have c1 := (cell2 (tW.obj h1 (fun h => h))).2.1
  have f0 : W.cell? ⟨w.heap.size, 0, none⟩ = some (.int .i64 p.from_) := by rw [hW]; simp [go_sem]
  have f1 : W.cell? ⟨w.heap.size, 1, none⟩ = some (.int .i64 p.to_) := by rw [hW]; simp [go_sem]
  have f2 : W.cell? ⟨w.heap.size, 2, none⟩ = some (.string p.data) := by rw [hW]; simp [go_sem]
  have hlt : w.heap.size < W.heap.size := by rw [hW]; simp
  have hm := h3.turn tW (fun h => h)
  have hd' : ¬ (8192 : Int) < p.data.size := by omega
  rw [hW] at c0
  have HW := hide hW
  have H1 := hide h1
  have H2 := hide h2
  have H3 := hide h3
  have HOK := hide hok
  clear h1 h2 h3 hW hok
  go_enter Try.func12, Try.ntmps12
  go_wp2_with fail
  rw [← HW.out]
  refine (closed_any nb m C p W hp c1 hm).mono ?_
  rintro e w1 ⟨rfl, t1⟩
  rw [hc]
  have t01 : Turn (fun _ => False) w w1 := tW.trans t1
  have g1 := t01.obj H1.out (fun h => h)
  have o1 := ownsRow_turn H2.out t01 (fun _ _ h => h)
  have m1 := H3.out.turn t01 (fun h => h)
  have d0 := (cell2 g1).1
  have d0f := (cell2 g1).2.2
  have e0 := (t1.cell (p := ⟨w.heap.size, 0, none⟩) hlt (fun h => h)).trans f0
  have e1 := (t1.cell (p := ⟨w.heap.size, 1, none⟩) hlt (fun h => h)).trans f1
  have e2 := (t1.cell (p := ⟨w.heap.size, 2, none⟩) hlt (fun h => h)).trans f2
  have hs1 := t01.size
  have d0a : (w1.alloc (.cells #[.int .i64 p.from_, .int .i64 p.to_, .string p.data] 25)).cell? ⟨nb, 0, none⟩ = some (.slice A ps.length c) := (World.cell?_alloc_lt _ _ _ (show nb < w1.heap.size by omega)).trans d0
  clear c0 c1 f0 f1 f2 hm
  go_wp2_with fail
  go_region_law (refine step_append_lies _ rfl (.tmp 29) (.tmp 31) 22 rfl base 25 i0 _ 3 32 Try.underlying22 hi hz0 hz1 hz2 rfl (by decide) (.slice A ps.length c) ps.length (ps.flatMap pkCells) (by simp [Act.eval]) (by exact o1.alloc _) ⟨w1.heap.size, 0, none⟩ 1 1 (pkCells p) (by simp [Act.eval]) rfl (by exact cells_new w1 (pkCells p) 25) (pk_oneCell p) (by omega) (by unfold maxLen; omega) (by omega) (by simp; omega) _ rfl ?_; intro g cap w2 own2 grow2 hat2 hlt2; have t2 : Turn (fun k => (Value.slice A ps.length c).ownBlock = some k) w1 w2 := (((Turn.refl _ w1).alloc (.cells (pkCells p).toArray 25)).drew).grown grow2 (fun k _ hk => hk); have g2 := Turn.obj_own g1 (by intro _ _ e; cases e) o1 t2; have k0 := (cell2 g2).1; have k0f := (cell2 g2).2.2)
  all_goals
    have own2' : w2.ownsRow base 25 3 (.slice (some ⟨g, 0, none⟩) (ps ++ [p]).length cap) (ps ++ [p]).length ((ps ++ [p]).flatMap pkCells) := by simpa using own2
    have fin := net_stored (w := w) ((t01.mono fun _ _ h => h.elim).trans (t2.mono fun k _ hk => .inr ⟨_, _, H1.out, hk⟩)) g2 (m1.own o1 t2) h4 h5 own2' (by intro q hq; rcases List.mem_append.1 hq with h | h; exact HOK.out q h; simp at h; rw [h]; exact hp) (hat2.elim (fun e => .inl (.inr ⟨_, _, H1.out, e⟩)) (fun e => .inr (by simp at e; omega))) (cell2 H1.out).2.1
    rw [List.length_append] at fin
    have FIN := hide fin
    clear fin own2 own2' k0 k0f d0 d0f d0a e0 e1 e2
    go_wp2
    go_ret
    exact ⟨rfl, FIN.out⟩
end Go.Proofs.Ytniiikgkeiomoaa
