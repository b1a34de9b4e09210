/-
  Twin: slices.Clone, maps.Clone.
-/
import Derived.Test.YtniiikgkeiomoaaCutOp
import Derived.Laws.Externs
import Derived.Shelf.SlMaps.Clone
namespace Go.Proofs.Ytniiikgkeiomoaa
open Go.RowKit Go.Maps

/-- A row that was just made. -/
def NewRow (w : World) (n : Nat) (xs : List Value) (e : Ending) (w' : World) : Prop := ∃ v, e = .returned v ∧ w'.ownsRow w.heap.size 25 3 v n xs ∧ Turn (fun _ => False) w w'

set_option maxHeartbeats 1000000 in
theorem clone28 (v : Value) (n : Nat) (xs : List Value) (w : World) (h : Rd w 3 v n xs) (h1 : ∀ u ∈ xs, u.oneCell' = true) (hm : n ≤ 1000000) :
    Calls Try.prog 28 #[v] w (NewRow w n xs) := by
  obtain ⟨i0, hi, hz0, hz1, hz2⟩ := info_parts info25
  obtain ⟨A, c, rfl⟩ := h.shape
  have hq := fun w A => Lib.run_eql_slice_nil (P := Try.prog) w 22 25 A n c 0 0 Try.underlying22
  cases A with
  | none =>
    obtain ⟨hl, A', c', e, hnil, _⟩ := h
    injection e with e1 e2 e3
    subst e1 e3
    obtain ⟨rfl, rfl⟩ := hnil rfl
    obtain rfl : xs = [] := List.eq_nil_of_length_eq_zero (by simpa using hl)
    clear h1 hl hnil
    go_enter Try.func28, Try.ntmps28
    go_wp2
    go_ret
    exact ⟨_, rfl, World.ownsRow_nil _ _ _ _, Turn.refl _ _⟩
  | some a =>
    have HR := hide h
    have H1 := hide h1
    have own : (w.alloc (.cells #[] 25)).ownsRow w.heap.size 25 3 (.slice (some ⟨w.heap.size, 0, none⟩) 0 0) 0 [] :=
      ⟨rfl, .inr ⟨w.heap.size, 0, #[], rfl, Nat.le_refl _, heap_alloc_new w _, Nat.le_refl _, by unfold maxLen; omega, rfl, rfl⟩⟩
    clear h h1
    go_enter Try.func28, Try.ntmps28
    go_wp2_with (at_builtin; refine wpList_appendRd rfl (.tmp 5) (.tmp 6) 22 rfl w.heap.size 25 i0 _ 3 32 Try.underlying22 hi hz0 hz1 hz2 rfl (by decide) (.slice (some ⟨w.heap.size, 0, none⟩) 0 0) 0 [] (by simp [Act.eval]) (by exact own) (.slice (some a) n c) n xs (by simp [Act.eval]) (by exact HR.out.turn ((Turn.refl (fun _ => False) w).alloc _) (fun _ _ _ h => h)) H1.out (by omega) (by omega) (by simp) ?_; intro v' w' own' t' new')
    go_ret
    refine ⟨v', rfl, by simpa using own', ?_⟩
    exact ((Turn.refl (fun _ => False) w).alloc (.cells #[] 25)).step t' (fun k hk e => by injection e with e; simp at e; omega)

theorem clone29 (m : Nat) (C : Cuts) (w : World) (h : CutMap w m C) :
    Calls Try.prog 29 #[.map (some m)] w fun e w' => e = .returned (.map (some w.heap.size)) ∧ CutMap w' w.heap.size C ∧ Turn (fun _ => False) w w' := by
  obtain ⟨n, D, hnC, ⟨es, cl, hb, F, hs, hD⟩, h2⟩ := h
  have hq := fun w => run_eql_map_nil_sl (P := Try.prog) w 48 _ _ (some m) Try.underlying48
  have fin : CutMap (w.alloc (.map es cl)) w.heap.size C := ⟨n, D, hnC, ⟨es, cl, heap_alloc_new w _, F, hs, hD⟩, h2⟩
  have FIN := hide fin
  clear fin h2 F hs hD
  go_enter Try.func29, Try.ntmps29
  go_wp2
  rw [run_callFunc_extern Try.func38 (by kernel_rfl) (by kernel_rfl) (by kernel_rfl) (e := Extern.MapsClone.clone) (by kernel_rfl), run_maps_clone_sl w 48 hb]
  simp only [Result.andThen]
  rw [Oper.upon_value]
  go_wp2
  rw [run_typeAssert_map_sl _ 48 20 _ _ _ Try.underlying48]
  simp only [Result.andThen]
  rw [Oper.upon_value]
  go_wp2
  go_ret
  exact ⟨rfl, FIN.out, (Turn.refl _ w).alloc _⟩

theorem ownsRow_low {w : World} {b base : Nat} {e : TypeId} {size : Nat} {v : Value} {n : Nat} {xs : List Value} (h : w.ownsRow base e size v n xs) (hb : b ≤ base) : w.ownsRow b e size v n xs := by
  refine ⟨h.1, ?_⟩
  rcases h.2 with h6 | ⟨g, cap, cur, hv, hg, r⟩
  · exact .inl h6
  · exact .inr ⟨g, cap, cur, hv, Nat.le_trans hb hg, r⟩
structure TwinTo (w : World) (nb : Nat) (ps : List Pk) (C : Cuts) (w' : World) : Prop where
  net : IsNet w' w.heap.size nb ps C
  turn : Turn (fun _ => False) w w'
def TwinPost (w : World) (ps : List Pk) (C : Cuts) (e : Ending) (w' : World) : Prop := ∃ nb, e = .returned (.pointer (some ⟨nb, 0, none⟩)) ∧ TwinTo w nb ps C w'
theorem twin_fin {w w1 : World} {v : Value} {m : Nat} {ps : List Pk} {C : Cuts} (t : Turn (fun _ => False) w w1) (ho : w1.ownsRow w.heap.size 25 3 v ps.length (ps.flatMap pkCells)) (hm : CutMap w1 m C) (hmb : w.heap.size ≤ m) (hok : ∀ p ∈ ps, p.ok) :
    TwinTo w w1.heap.size ps C (w1.alloc (.cells #[v, .map (some m)] 50)) :=
  ⟨⟨⟨v, m, heap_alloc_new w1 _, ownsRow_turn ho ((Turn.refl (fun _ => False) w1).alloc _) (fun _ _ h => h), hm.turn ((Turn.refl (fun _ => False) w1).alloc _) (fun h => h), hmb, t.size⟩, hok⟩, t.alloc _⟩

set_option maxHeartbeats 1000000 in
theorem twin_ok (base nb : Nat) (ps : List Pk) (C : Cuts) (w : World) (h : IsNet w base nb ps C) (hm : ps.length ≤ 1000000) :
    Calls Try.prog 19 #[.pointer (some ⟨nb, 0, none⟩)] w (TwinPost w ps C) := by
  have hlt := h.lt
  obtain ⟨⟨v, m, h1, h2, h3, h4, h5⟩, hok⟩ := h
  obtain ⟨A, c, rfl⟩ := (Rd.of_own h2).shape
  have R0 := hide (Rd.of_own h2)
  have M0 := hide h3
  have HOK := hide hok
  have c0 := (cell2 h1).1
  have c1 := (cell2 h1).2.1
  clear h1 h2 h3 hok
  go_enter Try.func19, Try.ntmps19
  go_wp2_with fail
  go_region_held3 (fun w' => w'.cell? ⟨nb, 0, none⟩ = some (.slice A ps.length c) ∧ w'.cell? ⟨nb, 1, none⟩ = some (.map (some m))) (go_keep)
    (first
      | (go_at_call 28; refine (clone28 _ ps.length (ps.flatMap pkCells) _ (by first | exact R0.out | exact R0.out.drewN 1 | exact R0.out.turn t2' (fun _ _ _ h => h)) (pks_oneCell ps) hm).mono ?_; rintro e w1 ⟨v1, rfl, o1, t1⟩; obtain ⟨A1, k1, rfl⟩ := (Rd.of_own o1).shape; have t1' : Turn (fun _ => False) w w1 := Turn.trans (by first | exact (Turn.refl _ _).drew | exact t2') t1; have a0 := (t1'.cell (p := ⟨nb, 0, none⟩) hlt (fun h => h)).trans c0; have a1 := (t1'.cell (p := ⟨nb, 1, none⟩) hlt (fun h => h)).trans c1)
      | (go_at_call 29; refine (clone29 m C _ (by first | exact M0.out | exact M0.out.turn t1' (fun h => h))).mono ?_; rintro e w2 ⟨rfl, m2, t2⟩; have t2' : Turn (fun _ => False) w w2 := Turn.trans (by first | exact (Turn.refl _ _).drew | exact t1') t2; have b0 := (t2'.cell (p := ⟨nb, 0, none⟩) hlt (fun h => h)).trans c0; have b1 := (t2'.cell (p := ⟨nb, 1, none⟩) hlt (fun h => h)).trans c1))
  all_goals
    clear a0 a1 b0 b1 c0 c1
    go_wp2
    go_ret
    first
      | exact ⟨_, rfl, twin_fin t2' (ownsRow_turn (ownsRow_low o1 (Nat.le_refl _)) t2 (fun _ _ h => h)) m2 t1'.size HOK.out⟩
      | exact ⟨_, rfl, twin_fin t1' (ownsRow_low o1 t2'.size) (m2.turn t1 (fun h => h)) (Nat.le_refl _) HOK.out⟩
theorem twin_nil (w : World) : Calls Try.prog 19 #[.pointer none] w fun e w' => e = .returned (.pointer none) ∧ w = w' := by
  go_enter Try.func19, Try.ntmps19
  go_wp2
  go_ret
  exact ⟨rfl, rfl⟩

/-- The twin lies beside all. -/
def TwinTells (o : Option Nat) (ps : List Pk) (C : Cuts) (base : Nat) (w0 : World) (ts : List Thing) (e : Ending) (w' : World) : Prop :=
  ∃ o' : Option Nat, o'.isSome = o.isSome ∧ e = .returned (ptr o') ∧ Lie base w0 w' (net base o' ps C :: ts)
theorem twin_any {base : Nat} {w0 w : World} {ts : List Thing} (h : Lie base w0 w ts) (n : Nat) (o : Option Nat) (ps : List Pk) (C : Cuts) (hn : ts[n]? = some (net base o ps C)) (hm : ps.length ≤ 1000000) :
    Calls Try.prog 19 #[ptr o] w (TwinTells o ps C base w0 ts) := by
  cases o with
  | none =>
    obtain rfl := lie_none h hn
    refine (twin_nil w).mono fun e w' hs => ⟨none, rfl, hs.1, ?_⟩
    rw [← hs.2]
    exact h.push (Turn.refl _ w) rfl (fun k hk => hk.elim)
  | some nb =>
    refine (twin_ok base nb ps C w (lie_net h hn) hm).mono fun e w' ⟨b, he, ht⟩ => ⟨some b, rfl, he, ?_⟩
    refine h.push ht.turn ?_ (fun k hk => (IsNet.ltF ht.net hk).1)
    obtain ⟨⟨v, m, h1, h2, h3, h4, h5⟩, ho⟩ := ht.net
    have hb := h.base_le
    exact ⟨⟨v, m, h1, ownsRow_low h2 hb, h3, by omega, by omega⟩, ho⟩
end Go.Proofs.Ytniiikgkeiomoaa
