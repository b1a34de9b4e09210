/-
  Cells of a row turned; copy of elements of more cells than one. No program in sight.
-/
import Derived.Test.YtcaeechlpadboaaStep
import Derived.Laws.IdiomCopy
import Derived.Lib.AppendZerosOnto
import Derived.Lib.Overlaps
namespace Go.Proofs.Ytcaeechlpadboaa
open Go.RowKit

/-- A list with others laid over it from a place on. -/
def over (l : List Value) (o : Nat) (vs : List Value) : List Value := l.take o ++ vs ++ l.drop (o + vs.length)
theorem over_nil (l : List Value) (o : Nat) : over l o [] = l := by simp [over]
theorem over_cons (l : List Value) (o : Nat) (v : Value) (r : List Value) (h : o < l.length) : over (l.set o v) (o + 1) r = over l o (v :: r) := by
  unfold over
  have h1 : (l.set o v).take (o + 1) = l.take o ++ [v] := by
    rw [List.take_succ_eq_append_getElem (by simpa using h), List.take_set_of_le (Nat.le_refl _)]
    simp
  have h2 : (l.set o v).drop (o + 1 + r.length) = l.drop (o + (v :: r).length) := by
    rw [List.drop_set_of_lt (by omega)]
    congr 1
    simp; omega
  rw [h1, h2]
  simp
theorem over_length (l : List Value) (o : Nat) (vs : List Value) (h : o + vs.length ≤ l.length) : (over l o vs).length = l.length := by
  simp [over]; omega
/-- What stands ahead of a place and what was laid there. -/
theorem over_take (l : List Value) (o : Nat) (vs : List Value) (h : o + vs.length ≤ l.length) : (over l o vs).take (o + vs.length) = l.take o ++ vs := by
  unfold over
  have h1 : (l.take o ++ vs).length = o + vs.length := by simp; omega
  rw [← h1, List.take_left]
theorem over_take_le (l : List Value) (o m : Nat) (vs : List Value) (h : o ≤ l.length) (hm : m ≤ o) : (over l o vs).take m = l.take m := by
  unfold over
  rw [List.append_assoc, List.take_append_of_le_length (by simp; omega), List.take_take, Nat.min_eq_left hm]

/-- Two cells laid in at an element's place, what stood there one place on. -/
theorem ins_list (l ys : List Value) (n i : Nat) (ab : List Value) (hab : ab.length = 2) (hy : l.take (n * 2) = ys) (hl : (n + 1) * 2 ≤ l.length) (hi : i < n) :
    (over (over l ((i + 1) * 2) (ys.drop (i * 2))) (i * 2) ab).take ((n + 1) * 2) = ys.take (i * 2) ++ ab ++ ys.drop (i * 2) := by
  have hyl : ys.length = n * 2 := by rw [← hy]; simp; omega
  have h1 : (over l ((i + 1) * 2) (ys.drop (i * 2))).take (i * 2) = ys.take (i * 2) := by
    rw [over_take_le _ _ _ _ (by omega) (by omega), ← hy, List.take_take, Nat.min_eq_left (by omega)]
  have h2 : (over l ((i + 1) * 2) (ys.drop (i * 2))).drop (i * 2 + ab.length) = ys.drop (i * 2) ++ l.drop ((i + 1) * 2 + (ys.drop (i * 2)).length) := by
    unfold over
    rw [List.append_assoc, show i * 2 + ab.length = (l.take ((i + 1) * 2)).length by rw [hab]; simp; omega, List.drop_left]
  show ((over l ((i + 1) * 2) (ys.drop (i * 2))).take (i * 2) ++ ab ++ (over l ((i + 1) * 2) (ys.drop (i * 2))).drop (i * 2 + ab.length)).take ((n + 1) * 2) = _
  rw [h1, h2, ← List.append_assoc]
  have h3 : (ys.take (i * 2) ++ ab ++ ys.drop (i * 2)).length = (n + 1) * 2 := by simp [hab, hyl]; omega
  rw [← h3, List.take_left]
/-- .. and in a new row. -/
theorem grow_list (z ys : List Value) (n i : Nat) (ab : List Value) (hab : ab.length = 2) (hyl : ys.length = n * 2) (hz : (n + 1 - i) * 2 ≤ z.length) (hi : i < n) :
    (over (over (ys.take (i * 2) ++ z) (i * 2) ab) ((i + 1) * 2) (ys.drop (i * 2))).take ((n + 1) * 2) = ys.take (i * 2) ++ ab ++ ys.drop (i * 2) := by
  have h1 : (over (ys.take (i * 2) ++ z) (i * 2) ab).take ((i + 1) * 2) = ys.take (i * 2) ++ ab := by
    have h2 := over_take (ys.take (i * 2) ++ z) (i * 2) ab (by simp [hab]; omega)
    rw [hab, show i * 2 + 2 = (i + 1) * 2 by omega] at h2
    rw [h2, List.take_append_of_le_length (by simp; omega), List.take_take, Nat.min_eq_left (Nat.le_refl _)]
  have hl2 : (over (ys.take (i * 2) ++ z) (i * 2) ab).length = (ys.take (i * 2) ++ z).length := over_length _ _ _ (by simp [hab]; omega)
  have h2 := over_take (over (ys.take (i * 2) ++ z) (i * 2) ab) ((i + 1) * 2) (ys.drop (i * 2)) (by rw [hl2]; simp; omega)
  rw [h1, show (i + 1) * 2 + (ys.drop (i * 2)).length = (n + 1) * 2 by simp; omega] at h2
  exact h2
/-- Of n elements of two cells the one at i taken out: what the block's first cells are behind it. -/
theorem del_list (cur xs : List Value) (n i : Nat) (z : List Value) (hx : cur.take (n * 2) = xs) (hl : n * 2 ≤ cur.length) (hi : i < n) :
    (over (over cur (i * 2) (xs.drop ((i + 1) * 2))) ((n - 1) * 2) z).take ((n - 1) * 2) = xs.take (i * 2) ++ xs.drop ((i + 1) * 2) := by
  have hxl : xs.length = n * 2 := by rw [← hx]; simp; omega
  have h1 : (over cur (i * 2) (xs.drop ((i + 1) * 2))).take ((n - 1) * 2) = xs.take (i * 2) ++ xs.drop ((i + 1) * 2) := by
    unfold over
    have hlen : (cur.take (i * 2) ++ xs.drop ((i + 1) * 2)).length = (n - 1) * 2 := by simp; omega
    rw [List.take_append_of_le_length (by omega), List.take_of_length_le (by omega)]
    rw [← hx, List.take_take, Nat.min_eq_left (by omega)]
  rw [over_take_le _ _ _ _ (by rw [over_length _ _ _ (by simp; omega)]; omega) (Nat.le_refl _), h1]
theorem setCells_block (b : Nat) (t : TypeId) : ∀ (vs : List Value) (o : Nat) (w : World) (cur : Array Value), w.heap[b]? = some (.cells cur t (0, 0)) → o + vs.length ≤ cur.size →
    (w.setCells b o vs).heap[b]? = some (.cells (over cur.toList o vs).toArray t (0, 0)) ∧ Turn (· = b) w (w.setCells b o vs)
  | [], o, w, cur, h, _ => by
    rw [over_nil]
    exact ⟨by simpa [World.setCells] using h, Turn.refl _ _⟩
  | v :: r, o, w, cur, h, hl => by
    simp only [List.length_cons] at hl
    have h1 : (w.setCell ⟨b, o, none⟩ v).heap[b]? = some (.cells (cur.setIfInBounds o v) t (0, 0)) := by
      simp [World.setCell, Array.getElem?_modify, h]
    obtain ⟨h2, h3⟩ := setCells_block b t r (o + 1) (w.setCell ⟨b, o, none⟩ v) _ h1 (by simp; omega)
    refine ⟨?_, ((Turn.refl (· = b) w).setCell (p := ⟨b, o, none⟩) (fun _ => rfl) v).trans h3⟩
    have e : (cur.setIfInBounds o v).toList = cur.toList.set o v := by simp
    rw [e, over_cons _ _ _ _ (by simp; omega)] at h2
    exact h2
theorem blk_cell {w : World} {g : Nat} {cur : Array Value} {t : TypeId} (h : w.heap[g]? = some (.cells cur t (0, 0))) (j : Nat) : w.cell? ⟨g, j, none⟩ = cur[j]? ∧ w.frozen? ⟨g, j, none⟩ = false := by
  simp [World.cell?, World.frozen?, h]

section
variable {P : Program}
/-- copy at elements of so many cells: all is read before anything is written. -/
theorem run_copy_k (w : World) (dT sT ty elem : TypeId) (size : Nat) (b o dLen dCap : Nat) (a : Addr) (sLen sCap : Nat) (cs : List Value)
    (hu : P.underlying dT = some (.slice elem)) (hs : (P.info? elem).map (·.size) = some size) (hn : cs.length = Nat.min sLen dLen * size)
    (hsrc : ∀ j v, cs[j]? = some v → w.cell? (a.add j) = some v) (hc : ∀ j, j < cs.length → (w.cell? ⟨b, o + j, none⟩).isSome = true) (hf : ∀ j, j < cs.length → w.frozen? ⟨b, o + j, none⟩ = false) (h1 : ∀ v ∈ cs, v.oneCell' = true) :
    (Builtin.copy_ #[dT, sT] ty #[.slice (some ⟨b, o, none⟩) dLen dCap, .slice (some a) sLen sCap]).run P w = .ok (goInt (Nat.min sLen dLen)) (w.setCells b o cs) := by
  have hl := run_firstCells_some (P := P) (w := w) size (Nat.min sLen dLen) a sLen sCap cs hn hsrc
  have hst := run_storeCells_cells (P := P) b o cs 0 w (by simpa using hc) (by simpa using hf) h1
  cases hq : P.info? elem with
  | none => simp [hq] at hs
  | some i =>
    have hi : i.size = size := by simpa [hq] using hs
    simp [Builtin.copy_, run_underlying hu, Builtin.lenOf, sizeOf, typeInfo, hq, hi, hl, hst]

theorem wpList_copy_run (w : World) {ops : Array Oper} {rest : List Oper} {o : Oper} {a : Act} {Q : Exit → Act → World → Prop} (hgd : o.guard = none) (d s : Operand) (t t' : TypeId)
    (ho : o.op = .call { callee := .builtin .copy, args := #[d, s], argTypes := #[t, t'] }) (v u : Value) (hd : a.eval d = v) (hs : a.eval s = u) {v' : Value} {w' : World}
    (hr : (Builtin.copy_ #[t, t'] o.type #[v, u]).run P w = .ok v' w') (h : wpList P ops Q rest (a.put o.dst v') w') : wpList P ops Q (o :: rest) a w :=
  wpList_plain hgd fun K hK => by
    unfold Oper.wp execOp
    simp only [ho, resolve, invoke, builtin, Sem.run_bind, Sem.run_pure, Result.andThen_ok, List.map_toArray, List.map_cons, List.map_nil, hd, hs, hr]
    exact hK _ _ h
/-- .. and as one step of a region that draws. -/
theorem step_copy_run {ops : Array Oper} {o : Oper} {a : Act} {w : World} {K : Act → World → Prop} {Q : Exit → Act → World → Prop} {E : Prop}
    (hg : o.guard = none) (d x : Operand) (dT sT : TypeId) (hop : o.op = Op.call { callee := Callee.builtin Builtin.copy, args := #[d, x], argTypes := #[dT, sT] })
    (v u : Value) (hd : a.eval d = v) (hx : a.eval x = u) {v' : Value} {w' : World} (hr : (Builtin.copy_ #[dT, sT] o.type #[v, u]).run P w = .ok v' w') (hK : K (a.put o.dst v') w') :
    if Region.wanted o (yielded ops a.tmps) = true then Oper.wp P o a w K Q else E := by
  have hw : Region.wanted o (yielded ops a.tmps) = true := by simp [Region.wanted, hg]
  rw [if_pos hw]
  unfold Oper.wp
  simp [execOp, hop, resolve, invoke, builtin, hd, hx, hr, Result.andThen]
  exact hK
end
theorem own_setCell {w : World} {base : Nat} {e : TypeId} {size g n cap : Nat} {ys : List Value} (h : w.ownsRow base e size (.slice (some ⟨g, 0, none⟩) n cap) n ys) (off : Nat) (u : Value) :
    (w.setCell ⟨g, off, none⟩ u).ownsRow base e size (.slice (some ⟨g, 0, none⟩) n cap) n (ys.set off u) := by
  obtain ⟨hl, h2⟩ := h
  refine ⟨by simpa using hl, ?_⟩
  rcases h2 with ⟨hx, _⟩ | ⟨g', cap', cur, hx, hbg, hblk, hnc, hmax, hcs, htk⟩
  · cases hx
  injection hx with e1 _ e3
  injection e1 with e1
  injection e1 with e1
  subst e1 e3
  refine .inr ⟨g, cap, cur.setIfInBounds off u, rfl, hbg, ?_, hnc, hmax, by simpa using hcs, ?_⟩
  · simp [World.setCell, Array.getElem?_modify, hblk]
  · simp only [Array.toList_setIfInBounds]
    rw [List.take_set, htk]
theorem own_cell {w : World} {base : Nat} {e : TypeId} {size g n cap : Nat} {ys : List Value} (h : w.ownsRow base e size (.slice (some ⟨g, 0, none⟩) n cap) n ys) (off : Nat) (u : Value) (ho : ys[off]? = some u) : w.cell? ⟨g, off, none⟩ = some u ∧ w.frozen? ⟨g, off, none⟩ = false := by
  obtain ⟨hl, h2⟩ := h
  rcases h2 with ⟨hx, _⟩ | ⟨g', cap', cur, hx, hbg, hblk, hnc, hmax, hcs, htk⟩
  · cases hx
  injection hx with e1 _ e3
  injection e1 with e1
  injection e1 with e1
  subst e1 e3
  refine ⟨?_, (blk_cell hblk _).2⟩
  rw [(blk_cell hblk _).1]
  rw [← htk, List.getElem?_take] at ho
  split at ho
  · rwa [Array.getElem?_toList] at ho
  · cases ho
theorem set_same {α : Type} {l : List α} {n : Nat} {x : α} (h : l[n]? = some x) : l.set n x = l := by
  obtain ⟨hn, rfl⟩ := List.getElem?_eq_some_iff.1 h
  exact List.set_getElem_self hn
theorem turn_weak {S : Nat → Prop} {w w' : World} (h : Turn (fun _ => False) w w') : Turn S w w' := h.mono fun _ _ h => h.elim
end Go.Proofs.Ytcaeechlpadboaa
