/-
  append of whatever slice that reads, in a region that draws its order too. No program in sight.
-/
import Derived.Test.YtnljdcghaecdaaaGreatDoorSep
import Derived.Deep.AppendLies
import Derived.Deep.RegionLaw
namespace Go.Proofs.YtnljdcghaecdaaaGreatDoor
open Go.RowKit

section
variable {P : Program} {w : World}
theorem run_appendRd (t ty : TypeId) (base : Nat) (e : TypeId) (i : TypeInfo) (z : Value) (size bytes : Nat) (ht : P.underlying t = some (.slice e)) (hi : P.info? e = some i) (hz : i.zero = some z)
    (hsize : i.size = size) (hby : i.bytes = bytes) (hzs : z.cells.size = size) (hsz : 0 < size)
    (v : Value) (n : Nat) (xs : List Value) (hown : w.ownsRow base e size v n xs)
    (vx : Value) (m : Nat) (news : List Value) (hr : Rd w size vx m news) (h1 : ∀ u ∈ news, u.oneCell' = true)
    (h63 : n + m ≤ 1000000) (hb2 : bytes ≤ 1000) (hbase : base ≤ w.heap.size) :
    ∃ A c w', (Builtin.append_ #[t, t] ty #[v, vx]).run P w = .ok (.slice A (n + m) c) w' ∧ w'.ownsRow base e size (.slice A (n + m) c) (n + m) (xs ++ news) ∧ Turn (fun k => v.ownBlock = some k) w w' ∧ Newer w v (.slice A (n + m) c) := by
  obtain ⟨hl, A, c, rfl, hnil, hc⟩ := hr
  cases A with
  | none =>
    obtain ⟨rfl, rfl⟩ := hnil rfl
    have : news = [] := List.eq_nil_of_length_eq_zero (by simpa using hl)
    subst this
    have hrun := run_append_owned_none (P := P) (w := w) base t ty e i size ht hi v n xs hown
    obtain ⟨A, c, rfl⟩ := (Rd.of_own hown).shape
    exact ⟨A, c, w, hrun, by simpa using hown, Turn.refl _ _, fun g hg => .inl hg⟩
  | some ad =>
    obtain ⟨v', w', hrun, h2, h3, _, h5⟩ := run_append_own_at (P := P) w base t ty e i z size bytes ht hi hz hsize hby hzs hsz v n xs hown ad m c news hl (by
      intro j u hj
      have hm : 0 < m := by
        have := (List.getElem?_eq_some_iff.1 hj).1
        rw [hl] at this
        exact Nat.pos_of_ne_zero (fun e => by subst e; simp at this)
      obtain ⟨b, o', hA, _, hcell⟩ := hc hm
      injection hA with hA
      subst hA
      rw [add_mk]
      exact hcell j u hj) h1 (by unfold maxLen; omega) (Nat.le_trans (Nat.mul_le_mul h63 hb2) (by omega)) hbase
    obtain ⟨A, c', rfl⟩ := (Rd.of_own h2).shape
    refine ⟨A, c', w', hrun, h2, (Turn.refl _ w).grown h3 (fun k _ hk => hk), fun g hg => ?_⟩
    rcases h5 with h6 | h6
    · exact .inl (h6 ▸ hg)
    · rw [h6] at hg
      simp at hg
      exact .inr (by omega)
/-- For 'go_region_law'. -/
theorem step_appendRd {ops : Array Oper} {o : Oper} {a : Act} {K : Act → World → Prop} {Q : Exit → Act → World → Prop} {E : Prop} (hgd : o.guard = none) (s x : Operand) (t : TypeId)
    (ho : o.op = .call { callee := .builtin .append, args := #[s, x], argTypes := #[t, t] })
    (base : Nat) (e : TypeId) (i : TypeInfo) (z : Value) (size bytes : Nat) (ht : P.underlying t = some (.slice e)) (hi : P.info? e = some i) (hz : i.zero = some z)
    (hsize : i.size = size) (hby : i.bytes = bytes) (hzs : z.cells.size = size) (hsz : 0 < size)
    (v : Value) (n : Nat) (xs : List Value) (hs : a.eval s = v) (hown : w.ownsRow base e size v n xs)
    (vx : Value) (m : Nat) (news : List Value) (hx : a.eval x = vx) (hr : Rd w size vx m news) (h1 : ∀ u ∈ news, u.oneCell' = true)
    (h63 : n + m ≤ 1000000) (hb2 : bytes ≤ 1000) (hbase : base ≤ w.heap.size)
    (h : ∀ A c w', w'.ownsRow base e size (.slice A (n + m) c) (n + m) (xs ++ news) → Turn (fun k => v.ownBlock = some k) w w' → Newer w v (.slice A (n + m) c) → K (a.put o.dst (.slice A (n + m) c)) w') :
    if Region.wanted o (yielded ops a.tmps) = true then Oper.wp P o a w K Q else E := by
  have hw : Region.wanted o (yielded ops a.tmps) = true := by simp [Region.wanted, hgd]
  rw [if_pos hw]
  obtain ⟨A, c, w', hr, h2, h3, h4⟩ := run_appendRd (P := P) (w := w) t o.type base e i z size bytes ht hi hz hsize hby hzs hsz v n xs hown vx m news hr h1 h63 hb2 hbase
  unfold Oper.wp execOp
  simp only [ho, resolve, invoke, builtin, Sem.run_bind, Sem.run_pure, Result.andThen_ok, List.map_toArray, List.map_cons, List.map_nil, hs, hx, hr]
  exact h A c w' h2 h3 h4
end

/-- The head of a row. -/
theorem rd_head {w : World} {base : Nat} {e : TypeId} {size g n cap : Nat} {xs : List Value} (h : w.ownsRow base e size (.slice (some ⟨g, 0, none⟩) n cap) n xs) (k : Nat) (hk : k ≤ n) : Rd w size (.slice (some ⟨g, 0, none⟩) k cap) k (xs.take (k * size)) := by
  have hl := h.1
  obtain ⟨_, A, c, hv, _, hc⟩ := Rd.of_own h
  injection hv with e1 _ e3
  subst e1 e3
  refine ⟨?_, _, _, rfl, (fun h => by cases h), fun h0 => ?_⟩
  · rw [List.length_take, hl]
    exact Nat.min_eq_left (Nat.mul_le_mul_right _ hk)
  · obtain ⟨b, o, hA, hb, hcell⟩ := hc (by omega)
    refine ⟨b, o, hA, hb, fun j u hj => hcell j u ?_⟩
    rw [List.getElem?_take] at hj
    split at hj
    · exact hj
    · cases hj
/-- What lies behind the element at k. -/
theorem rd_tail {w : World} {base : Nat} {e : TypeId} {size g n cap : Nat} {xs : List Value} (h : w.ownsRow base e size (.slice (some ⟨g, 0, none⟩) n cap) n xs) (k : Nat) (hk : k < n) :
    ∃ A : Addr, (if cap = k + 1 then some (⟨g, 0, none⟩ : Addr) else some ⟨g, (k + 1) * size, none⟩) = some A ∧ Rd w size (.slice (some A) (n - (k + 1)) (cap - (k + 1))) (n - (k + 1)) (xs.drop ((k + 1) * size)) ∧ (Value.slice (some A) (n - (k + 1)) (cap - (k + 1))).ownBlock = some g := by
  have hl := h.1
  obtain ⟨_, A, c, hv, _, hc⟩ := Rd.of_own h
  injection hv with e1 _ e3
  subst e1 e3
  have hlen : (xs.drop ((k + 1) * size)).length = (n - (k + 1)) * size := by rw [List.length_drop, hl, Nat.sub_mul]
  have hnc : n ≤ cap := by
    rcases h.2 with ⟨h1, _⟩ | ⟨g', cap', cur, hv, _, _, hn, _⟩
    · cases h1
    · injection hv with _ _ h3; omega
  by_cases hcap : cap = k + 1
  · refine ⟨⟨g, 0, none⟩, by rw [if_pos hcap], ⟨hlen, _, _, rfl, (fun h => by cases h), fun h0 => by omega⟩, rfl⟩
  · refine ⟨⟨g, (k + 1) * size, none⟩, by rw [if_neg hcap], ⟨hlen, _, _, rfl, (fun h => by cases h), fun h0 => ?_⟩, rfl⟩
    obtain ⟨b, o, hA, hb, hcell⟩ := hc (by omega)
    injection hA with hA
    injection hA with hA1 hA2
    subst hA1 hA2
    refine ⟨g, (k + 1) * size, rfl, hb, fun j u hj => ?_⟩
    have := hcell ((k + 1) * size + j) u (by rw [← hj, List.getElem?_drop])
    rw [Nat.zero_add] at this
    exact this
/-- An empty row that was just laid. -/
theorem own_laid (w : World) (base : Nat) (e : TypeId) (size : Nat) (hb : base ≤ w.heap.size) : (w.alloc (.cells #[] e)).ownsRow base e size (.slice (some ⟨w.heap.size, 0, none⟩) 0 0) 0 [] :=
  ⟨by simp, .inr ⟨w.heap.size, 0, #[], rfl, hb, heap_alloc_new w _, Nat.le_refl _, by unfold maxLen; omega, by simp, by simp⟩⟩
end Go.Proofs.YtnljdcghaecdaaaGreatDoor
