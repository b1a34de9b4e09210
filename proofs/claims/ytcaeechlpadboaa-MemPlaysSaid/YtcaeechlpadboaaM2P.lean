/-
  A table of pairs: what reads it.
-/
import Derived.Test.YtcaeechlpadboaaM1P
namespace Go.Proofs.Ytcaeechlpadboaa.MP
open Go.RowKit Go.Lib

abbrev mobj (v : Value) (lent : Bool) : Obj := .cells #[v, .bool lent] 97 (0, 0)
abbrev pt (T : Nat) : Value := .pointer (some ⟨T, 0, none⟩)
/-- There lies a table. -/
structure At (base : Nat) (ts : List Thing) (j k T : Nat) (v : Value) (lent : Bool) (xs : List Ent) : Prop where
  hj : ts[j]? = some (box T (mobj v lent))
  hk : ts[k]? = some (row base 99 3 v xs.length (cells xs))
  hs : Srt xs
  hn : xs.length ≤ 100000
theorem mcells {w : World} {T : Nat} {v : Value} {lent : Bool} (h : w.heap[T]? = some (mobj v lent)) : w.cell? ⟨T, 0, none⟩ = some v ∧ w.cell? ⟨T, 1, none⟩ = some (.bool lent) ∧ w.frozen? ⟨T, 0, none⟩ = false ∧ w.frozen? ⟨T, 1, none⟩ = false := by
  simp [World.cell?, World.frozen?, h]
theorem At.rd {base : Nat} {w0 w : World} {ts : List Thing} {j k T : Nat} {v : Value} {lent : Bool} {xs : List Ent} (a : At base ts j k T v lent xs) (h : Lie base w0 w ts) :
    ∃ A c, v = .slice A xs.length c ∧ Rd w 3 (.slice A xs.length c) xs.length (cells xs) := by
  have h1 := Rd.of_own (h.get k a.hk)
  obtain ⟨A, c, rfl⟩ := h1.shape
  exact ⟨A, c, rfl, h1⟩
/-- What is told, and what lies there. -/
def TL (v : Value) (base : Nat) (w0 : World) (ts : List Thing) (e : Ending) (w' : World) : Prop := e = .returned v ∧ Hid (Lie base w0 w' ts)
/-- A key's value. -/
def get (xs : List Ent) (k : ByteArray) : V × Bool := if has xs k then ((xs[pos xs k]?.map (·.2)).getD ((0, none, 0, 0) : V), true) else (((0, none, 0, 0) : V), false)
section
variable {base : Nat} {w0 w : World} {ts : List Thing} {j k T : Nat} {v : Value} {lent : Bool} {xs : List Ent}
set_option maxRecDepth 100000 in
theorem find_nil (key : ByteArray) (w : World) : Calls Try.prog 60 #[.pointer none, .string key] w (Same (.tuple #[.int .i64 0, .bool false]) w) := by
  go_enter Try.func60, Try.ntmps60
  go_wp2_with fail
  go_ret2
  exact ⟨rfl, Turn.refl _ w⟩
set_option maxRecDepth 100000 in
theorem find_any (key : ByteArray) (a : At base ts j k T v lent xs) (h : Lie base w0 w ts) : Calls Try.prog 60 #[pt T, .string key] w (TL (.tuple #[.int .i64 (pos xs key : Nat), .bool (has xs key)]) base w0 ts) := by
  obtain ⟨A, c, rfl, hr⟩ := a.rd h
  obtain ⟨c0, c1, f0, f1⟩ := mcells (h.get j a.hj)
  have hsr := search_any xs a.hs key A c (by have := a.hn; omega) w hr
  have H := hide h
  have HSR := hide hsr
  clear h hr a hsr
  go_enter Try.func60, Try.ntmps60
  go_wp2_with fail
  refine HSR.out.mono ?_
  rintro e w1 ⟨rfl, t1⟩
  have T1 := hide (H.out.stay t1)
  clear t1
  go_wp2_with fail
  go_ret2
  exact ⟨rfl, T1⟩
set_option maxRecDepth 100000 in
theorem len_nil (w : World) : Calls Try.prog 35 #[.pointer none] w (Same (.int .i64 0) w) := by
  go_enter Try.func35, Try.ntmps35
  go_wp2_with fail
  go_ret
  exact ⟨rfl, Turn.refl _ w⟩
set_option maxRecDepth 100000 in
theorem len_any (a : At base ts j k T v lent xs) (h : Lie base w0 w ts) : Calls Try.prog 35 #[pt T] w (TL (.int .i64 (xs.length : Nat)) base w0 ts) := by
  obtain ⟨A, c, rfl, hr⟩ := a.rd h
  obtain ⟨c0, c1, f0, f1⟩ := mcells (h.get j a.hj)
  have H := hide h
  clear h hr a
  go_enter Try.func35, Try.ntmps35
  go_wp2_with fail
  go_ret
  exact ⟨rfl, H⟩
set_option maxRecDepth 100000 in
theorem new_any (h : Lie base w0 w ts) : Calls Try.prog 30 #[] w fun e w' => ∃ T, e = .returned (pt T) ∧ Hid (Lie base w0 w' (row base 99 3 (.slice none 0 0) 0 [] :: box T (mobj (.slice none 0 0) false) :: ts)) := by
  have H := hide h
  clear h
  go_enter Try.func30, Try.ntmps30
  go_wp2_with fail
  go_ret
  refine ⟨w.heap.size, rfl, hide ?_⟩
  refine (H.out.alloc _).push (Turn.refl _ _) (World.ownsRow_nil _ _ _ _) ?_
  intro k hk
  cases hk
/-- The result's own box. -/
abbrev rbx (r : Nat) (u : V) : Thing := box r (.cells #[v1 u, v2 u] 60 (0, 0))
theorem cell2 {w : World} {b : Nat} {u v : Value} {t : TypeId} (h : w.heap[b]? = some (.cells #[u, v] t (0, 0))) : w.cell? ⟨b, 0, none⟩ = some u ∧ w.cell? ⟨b, 1, none⟩ = some v ∧ w.frozen? ⟨b, 0, none⟩ = false ∧ w.frozen? ⟨b, 1, none⟩ = false := by
  simp [World.cell?, World.frozen?, h]
set_option maxRecDepth 100000 in
theorem get_any (key : ByteArray) (a : At base ts j k T v lent xs) (h : Lie base w0 w ts) : Calls Try.prog 33 #[pt T, .string key] w (TL (.tuple #[vv (get xs key).1, .bool (get xs key).2]) base w0 ts) := by
  have h1 : Lie base w0 (w.alloc (.cells #[.int .i64 0, .slice none 0 0] 60)) (rbx w.heap.size ((0, none, 0, 0) : V) :: ts) := h.alloc _
  have a1 : At base (rbx w.heap.size ((0, none, 0, 0) : V) :: ts) (j + 1) (k + 1) T v lent xs := ⟨a.hj, a.hk, a.hs, a.hn⟩
  have hf := find_any key a1 h1
  have HF := hide hf
  have AA := hide a1
  obtain ⟨r, hr0⟩ : ∃ r, r = w.heap.size := ⟨_, rfl⟩
  have HR0 := hide hr0
  rw [← hr0] at HF AA
  clear hf h h1 a1 hr0
  by_cases hh : has xs key = true
  · obtain ⟨hp, hx⟩ := (has_pos xs key a.hs).1 hh
    have HG : Hid (get xs key = ((xs[pos xs key]).2, true)) := hide (by unfold get; rw [if_pos hh, List.getElem?_eq_getElem hp]; rfl)
    have HH := hide hh
    have HP := hide hp
    have hp1 : pos xs key < xs.length := hp
    have hn := a.hn
    clear a hh
    go_enter Try.func33, Try.ntmps33
    go_wp2_with fail
    rw [← HR0.out]
    refine HF.out.mono ?_
    rintro e w1 ⟨rfl, H⟩
    rw [HH.out]
    obtain ⟨A, c, rfl, hr⟩ := AA.out.rd H.out
    obtain ⟨c0, c1, f0, f1⟩ := mcells (H.out.get (j + 1) AA.out.hj)
    obtain ⟨b, o, rfl, hb, hc⟩ := cell_at xs hr (by omega)
    obtain ⟨k0, k1, k2⟩ := hc _ hp1
    obtain ⟨r0, r1, g0, g1⟩ := cell2 (H.out.get 0 rfl)
    have L2 := hide ((H.out.setBox 0 rfl 0 (v1 (xs[pos xs key]).2)).setBox 0 rfl 1 (v2 (xs[pos xs key]).2))
    obtain ⟨y0, y1, _, _⟩ := cell2 (L2.out.get 0 rfl)
    have Y0 := hide y0
    have Y1 := hide y1
    clear hc hr hx y0 y1
    generalize (xs[pos xs key]).2 = u at *
    generalize pos xs key = q at *
    go_wp2_with fail
    refine bodyPost_ret (v := .tuple #[vv u, .bool true]) ?_ rfl ⟨by rw [HG.out], hide L2.out.pop⟩
    have y0 := Y0.out
    have y1 := Y1.out
    simp [results, Try.f33, go_sem, y0, y1]
  · have HG : Hid (get xs key = (((0, none, 0, 0) : V), false)) := hide (by unfold get; rw [if_neg hh])
    have HH := hide (Bool.eq_false_iff.2 hh)
    clear a hh
    go_enter Try.func33, Try.ntmps33
    go_wp2_with fail
    rw [← HR0.out]
    refine HF.out.mono ?_
    rintro e w1 ⟨rfl, H⟩
    rw [HH.out]
    have h3 : Lie base w0 (w1.alloc (.cells #[.int .i64 0, .slice none 0 0] 60)) (rbx w1.heap.size ((0, none, 0, 0) : V) :: rbx r ((0, none, 0, 0) : V) :: ts) := H.out.alloc _
    obtain ⟨r0, r1, g0, g1⟩ := cell2 (h3.get 1 rfl)
    have L2 := hide ((h3.setBox 1 rfl 0 (.int .i64 0)).setBox 1 rfl 1 (.slice none 0 0))
    obtain ⟨y0, y1, _, _⟩ := cell2 (L2.out.get 1 rfl)
    have Y0 := hide y0
    have Y1 := hide y1
    clear h3 y0 y1
    go_wp2_with fail
    refine bodyPost_ret (v := .tuple #[vv ((0, none, 0, 0) : V), .bool false]) ?_ rfl ⟨by rw [HG.out], hide L2.out.pop.pop⟩
    have y0 := Y0.out
    have y1 := Y1.out
    simp [results, Try.f33, go_sem, y0, y1]
end
end Go.Proofs.Ytcaeechlpadboaa.MP
