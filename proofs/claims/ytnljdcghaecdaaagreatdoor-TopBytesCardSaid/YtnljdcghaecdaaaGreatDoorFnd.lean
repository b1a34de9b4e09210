/-
  Find.
-/
import Derived.Test.YtnljdcghaecdaaaGreatDoorMp
import Derived.Lib.SliceRun
namespace Go.Proofs.YtnljdcghaecdaaaGreatDoor
open Go.RowKit Go.Lib Go.Maps
attribute [local go_sem] Oper.semAt_some

def NewRow (e : TypeId) (size : Nat) (w : World) (n : Nat) (xs : List Value) (en : Ending) (w' : World) : Prop := ∃ v, en = .returned v ∧ w'.ownsRow w.heap.size e size v n xs ∧ Turn (fun _ => False) w w'
theorem info44 : (Tryz.prog.info? 44).map (fun i => (i.zero, i.size, i.bytes)) = some (some (.agg #[.int .u8 0, .string ⟨#[]⟩]), 2, 24) := by kernel_rfl
theorem info63 : (Tryz.prog.info? 63).map (fun i => (i.zero, i.size, i.bytes)) = some (some (.agg #[.string ⟨#[]⟩, .slice none 0 0]), 2, 40) := by kernel_rfl
set_option maxRecDepth 100000 in
theorem clone88 (v : Value) (n : Nat) (xs : List Value) (w : World) (h : Rd w 2 v n xs) (h1 : ∀ u ∈ xs, u.oneCell' = true) (hm : n ≤ 1000000) :
    Calls Tryz.prog 88 #[v] w (NewRow 44 2 w n xs) := by
  obtain ⟨i0, hi, hz0, hz1, hz2⟩ := info_parts info44
  obtain ⟨A, c, rfl⟩ := h.shape
  have hq := fun w A => Lib.run_eql_slice_nil (P := Tryz.prog) w 27 44 A n c 0 0 Tryz.underlying27
  cases A with
  | none =>
    obtain ⟨hl, A', c', e, hnil, _⟩ := h
    injection e with e1 e2 e3
    subst e1 e3
    obtain ⟨rfl, rfl⟩ := hnil rfl
    obtain rfl : xs = [] := List.eq_nil_of_length_eq_zero (by simpa using hl)
    clear h1 hl hnil
    go_enter Tryz.func88, Tryz.ntmps88
    go_wp2
    go_ret
    exact ⟨_, rfl, World.ownsRow_nil _ _ _ _, Turn.refl _ _⟩
  | some a =>
    have HR := hide h
    have H1 := hide h1
    have own : (w.alloc (.cells #[] 44)).ownsRow w.heap.size 44 2 (.slice (some ⟨w.heap.size, 0, none⟩) 0 0) 0 [] :=
      ⟨rfl, .inr ⟨w.heap.size, 0, #[], rfl, Nat.le_refl _, heap_alloc_new w _, Nat.le_refl _, by unfold maxLen; omega, rfl, rfl⟩⟩
    clear h h1
    go_enter Tryz.func88, Tryz.ntmps88
    go_wp2_with (at_builtin; refine wpList_appendRd rfl (.tmp 5) (.tmp 6) 27 rfl w.heap.size 44 i0 _ 2 24 Tryz.underlying27 hi hz0 hz1 hz2 rfl (by decide) (.slice (some ⟨w.heap.size, 0, none⟩) 0 0) 0 [] (by simp [Act.eval]) (by exact own) (.slice (some a) n c) n xs (by simp [Act.eval]) (by exact HR.out.turn ((Turn.refl (fun _ => False) w).alloc _) (fun _ _ _ h => h)) H1.out (by omega) (by omega) (by simp) ?_; intro v' w' own' t' new')
    go_ret
    refine ⟨v', rfl, by simpa using own', ?_⟩
    exact ((Turn.refl (fun _ => False) w).alloc (.cells #[] 44)).step t' (fun k hk e => by injection e with e; simp at e; omega)
set_option maxRecDepth 100000 in
theorem clone87 (v : Value) (n : Nat) (xs : List Value) (w : World) (h : Rd w 2 v n xs) (h1 : ∀ u ∈ xs, u.oneCell' = true) (hm : n ≤ 1000000) :
    Calls Tryz.prog 87 #[v] w (NewRow 63 2 w n xs) := by
  obtain ⟨i0, hi, hz0, hz1, hz2⟩ := info_parts info63
  obtain ⟨A, c, rfl⟩ := h.shape
  have hq := fun w A => Lib.run_eql_slice_nil (P := Tryz.prog) w 59 63 A n c 0 0 Tryz.underlying59
  cases A with
  | none =>
    obtain ⟨hl, A', c', e, hnil, _⟩ := h
    injection e with e1 e2 e3
    subst e1 e3
    obtain ⟨rfl, rfl⟩ := hnil rfl
    obtain rfl : xs = [] := List.eq_nil_of_length_eq_zero (by simpa using hl)
    clear h1 hl hnil
    go_enter Tryz.func87, Tryz.ntmps87
    go_wp2
    go_ret
    exact ⟨_, rfl, World.ownsRow_nil _ _ _ _, Turn.refl _ _⟩
  | some a =>
    have HR := hide h
    have H1 := hide h1
    have own : (w.alloc (.cells #[] 63)).ownsRow w.heap.size 63 2 (.slice (some ⟨w.heap.size, 0, none⟩) 0 0) 0 [] :=
      ⟨rfl, .inr ⟨w.heap.size, 0, #[], rfl, Nat.le_refl _, heap_alloc_new w _, Nat.le_refl _, by unfold maxLen; omega, rfl, rfl⟩⟩
    clear h h1
    go_enter Tryz.func87, Tryz.ntmps87
    go_wp2_with (at_builtin; refine wpList_appendRd rfl (.tmp 5) (.tmp 6) 59 rfl w.heap.size 63 i0 _ 2 40 Tryz.underlying59 hi hz0 hz1 hz2 rfl (by decide) (.slice (some ⟨w.heap.size, 0, none⟩) 0 0) 0 [] (by simp [Act.eval]) (by exact own) (.slice (some a) n c) n xs (by simp [Act.eval]) (by exact HR.out.turn ((Turn.refl (fun _ => False) w).alloc _) (fun _ _ _ h => h)) H1.out (by omega) (by omega) (by simp) ?_; intro v' w' own' t' new')
    go_ret
    refine ⟨v', rfl, by simpa using own', ?_⟩
    exact ((Turn.refl (fun _ => False) w).alloc (.cells #[] 63)).step t' (fun k hk e => by injection e with e; simp at e; omega)
theorem own_setCell {w : World} {base : Nat} {e : TypeId} {size g n cap : Nat} {ys : List Value} (h : w.ownsRow base e size (.slice (some ⟨g, 0, none⟩) n cap) n ys) (off : Nat) (u : Value) :
    (w.setCell ⟨g, off, none⟩ u).ownsRow base e size (.slice (some ⟨g, 0, none⟩) n cap) n (ys.set off u) := by
  obtain ⟨hl, h2⟩ := h
  refine ⟨by simpa using hl, ?_⟩
  rcases h2 with ⟨hx, _⟩ | ⟨g', cap', cur, hx, hbg, hblk, hnc, hmax, hcs, htk⟩
  · cases hx
  injection hx with e1 _ e3
  injection e1 with e1
  injection e1 with e1
  subst e1 e3
  refine .inr ⟨g, cap, cur.setIfInBounds off u, rfl, hbg, ?_, hnc, hmax, by simpa using hcs, ?_⟩
  · simp [World.setCell, Array.getElem?_modify, hblk]
  · simp only [Array.toList_setIfInBounds]
    rw [List.take_set, htk]
theorem own_cell {w : World} {base : Nat} {e : TypeId} {size g n cap : Nat} {ys : List Value} (h : w.ownsRow base e size (.slice (some ⟨g, 0, none⟩) n cap) n ys) (off : Nat) (u : Value) (ho : ys[off]? = some u) : w.cell? ⟨g, off, none⟩ = some u ∧ w.frozen? ⟨g, off, none⟩ = false := by
  obtain ⟨hl, h2⟩ := h
  rcases h2 with ⟨hx, _⟩ | ⟨g', cap', cur, hx, hbg, hblk, hnc, hmax, hcs, htk⟩
  · cases hx
  injection hx with e1 _ e3
  injection e1 with e1
  injection e1 with e1
  subst e1 e3
  rw [← htk, List.getElem?_take] at ho
  split at ho
  · rw [Array.getElem?_toList] at ho
    refine ⟨?_, by simp [World.frozen?, hblk]⟩
    simp [World.cell?, hblk, ho]
  · cases ho
theorem own_shape {w : World} {base : Nat} {e : TypeId} {size n : Nat} {v : Value} {ys : List Value} (h : w.ownsRow base e size v n ys) (h0 : 0 < n) : ∃ g c, v = .slice (some ⟨g, 0, none⟩) n c := by
  rcases h.2 with ⟨rfl, h2⟩ | ⟨g, c, cur, rfl, _⟩
  · omega
  · exact ⟨g, c, rfl⟩
theorem field_set : ∀ (fs : List FieldD) (i : Nat) (hi : i < fs.length) (v : Value), (fs.flatMap fieldc).set (i * 2 + 1) v = (fs.set i { fs[i] with tv := v }).flatMap fieldc
  | f :: fs, 0, _, v => by simp
  | f :: fs, i + 1, hi, v => by
    have e : (i + 1) * 2 + 1 = (i * 2 + 1) + 1 + 1 := by omega
    rw [e]
    simp only [List.flatMap_cons, List.set_cons_succ, List.getElem_cons_succ, fieldc, List.cons_append, List.nil_append]
    rw [field_set fs i (by simpa using hi) v]
theorem lie_tuck4 {B : Nat} {w0 w : World} {t a b c d : Thing} {us : List Thing} (h : Lie B w0 w (t :: a :: b :: c :: d :: us)) : Lie B w0 w (a :: b :: c :: d :: t :: us) :=
  h.pick (fun i => if i = 0 then 1 else if i = 1 then 2 else if i = 2 then 3 else if i = 3 then 4 else if i = 4 then 0 else i) (fun i j _ _ e => by
    by_cases a0 : i = 0 <;> by_cases a1 : i = 1 <;> by_cases a2 : i = 2 <;> by_cases a3 : i = 3 <;> by_cases a4 : i = 4 <;> by_cases b0 : j = 0 <;> by_cases b1 : j = 1 <;> by_cases b2 : j = 2 <;> by_cases b3 : j = 3 <;> by_cases b4 : j = 4 <;> simp [a0, a1, a2, a3, a4, b0, b1, b2, b3, b4] at e <;> omega) (fun i u hu => by
    match i with
    | 0 => exact hu
    | 1 => exact hu
    | 2 => exact hu
    | 3 => exact hu
    | 4 => exact hu
    | i + 5 => simpa using hu)
theorem fields_one (fs : List FieldD) (h : ∀ f ∈ fs, f.tv.oneCell' = true) : ∀ u ∈ fs.flatMap fieldc, u.oneCell' = true := by
  intro u hu
  obtain ⟨f, hf, hu⟩ := List.mem_flatMap.1 hu
  simp only [fieldc, List.mem_cons, List.not_mem_nil, or_false] at hu
  rcases hu with rfl | rfl
  · rfl
  · exact h f hf
theorem sorts_one (ts : List SortD) : ∀ u ∈ ts.flatMap sortc, u.oneCell' = true := by
  intro u hu
  obtain ⟨f, hf, hu⟩ := List.mem_flatMap.1 hu
  simp only [sortc, List.mem_cons, List.not_mem_nil, or_false] at hu
  rcases hu with rfl | rfl <;> rfl
end Go.Proofs.YtnljdcghaecdaaaGreatDoor
