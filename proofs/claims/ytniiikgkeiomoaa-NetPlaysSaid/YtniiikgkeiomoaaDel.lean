/-
  slices.Delete of one packet.
-/
import Derived.Test.YtniiikgkeiomoaaSend
import Derived.Lib.SlicesDelete
import Derived.Lib.SliceRun
namespace Go.Proofs.Ytniiikgkeiomoaa
open Go.RowKit Go.Maps

/-- A list with others laid over it from a place on. -/
def over (l : List Value) (o : Nat) (vs : List Value) : List Value := l.take o ++ vs ++ l.drop (o + vs.length)
theorem over_nil (l : List Value) (o : Nat) : over l o [] = l := by simp [over]
theorem over_cons (l : List Value) (o : Nat) (v : Value) (r : List Value) (h : o < l.length) : over (l.set o v) (o + 1) r = over l o (v :: r) := by
  unfold over
  have h1 : (l.set o v).take (o + 1) = l.take o ++ [v] := by
    rw [List.take_succ_eq_append_getElem (by simpa using h), List.take_set_of_le (Nat.le_refl _)]
    simp
  have h2 : (l.set o v).drop (o + 1 + r.length) = l.drop (o + (v :: r).length) := by
    rw [List.drop_set_of_lt (by omega)]
    congr 1
    simp; omega
  rw [h1, h2]
  simp
theorem over_length (l : List Value) (o : Nat) (vs : List Value) (h : o + vs.length ≤ l.length) : (over l o vs).length = l.length := by
  simp [over]; omega

theorem setCells_block (b : Nat) (t : TypeId) : ∀ (vs : List Value) (o : Nat) (w : World) (cur : Array Value), w.heap[b]? = some (.cells cur t (0, 0)) → o + vs.length ≤ cur.size →
    (w.setCells b o vs).heap[b]? = some (.cells (over cur.toList o vs).toArray t (0, 0)) ∧ Turn (· = b) w (w.setCells b o vs)
  | [], o, w, cur, h, _ => by
    rw [over_nil]
    exact ⟨by simpa [World.setCells] using h, Turn.refl _ _⟩
  | v :: r, o, w, cur, h, hl => by
    simp only [List.length_cons] at hl
    have h1 : (w.setCell ⟨b, o, none⟩ v).heap[b]? = some (.cells (cur.setIfInBounds o v) t (0, 0)) := by
      simp [World.setCell, Array.getElem?_modify, h]
    obtain ⟨h2, h3⟩ := setCells_block b t r (o + 1) (w.setCell ⟨b, o, none⟩ v) _ h1 (by simp; omega)
    refine ⟨?_, ((Turn.refl (· = b) w).setCell (p := ⟨b, o, none⟩) (fun _ => rfl) v).trans h3⟩
    have e : (cur.setIfInBounds o v).toList = cur.toList.set o v := by simp
    rw [e, over_cons _ _ _ _ (by simp; omega)] at h2
    exact h2

theorem run_clear3 (w : World) (ty : TypeId) (b o c : Nat) (hc : ∀ j, j < 3 → (w.cell? ⟨b, o + j, none⟩).isSome = true) (hf : ∀ j, j < 3 → w.frozen? ⟨b, o + j, none⟩ = false) :
    (Builtin.clear_ #[22] ty #[.slice (some ⟨b, o, none⟩) 1 c]).run Try.prog w = .ok (.tuple #[]) (w.setCells b o [.int .i64 0, .int .i64 0, .string ⟨#[]⟩]) := by
  have hz : ∀ w, (zeroValue 25).run Try.prog w = .ok (.agg #[.int .i64 0, .int .i64 0, .string ⟨#[]⟩]) w := fun w => by kernel_rfl
  have hst := run_storeCells_cells (P := Try.prog) b o [.int .i64 0, .int .i64 0, .string ⟨#[]⟩] 0 w (by simpa using hc) (by simpa using hf) (by intro v hv; simp at hv; rcases hv with rfl | rfl <;> rfl)
  simp only [Nat.add_zero] at hst
  have hzc : (Builtin.zeroCells (Value.agg #[.int .i64 0, .int .i64 0, .string ⟨#[]⟩]).cells 1).toList = [.int .i64 0, .int .i64 0, .string ⟨#[]⟩] := by kernel_rfl
  simp [Builtin.clear_, run_underlying Try.underlying22, hz, hzc, hst]

theorem blk_cell {w : World} {g : Nat} {cur : Array Value} {t : TypeId} (h : w.heap[g]? = some (.cells cur t (0, 0))) (j : Nat) : w.cell? ⟨g, j, none⟩ = cur[j]? ∧ w.frozen? ⟨g, j, none⟩ = false := by
  simp [World.cell?, World.frozen?, h]

/-- Of n elements of three cells the one at i taken out: what the block's first cells are behind it. -/
theorem over_take (cur xs : List Value) (n i : Nat) (z : List Value) (hx : cur.take (n * 3) = xs) (hl : n * 3 ≤ cur.length) (hi : i < n) :
    (over (over cur (i * 3) (xs.drop ((i + 1) * 3))) ((n - 1) * 3) z).take ((n - 1) * 3) = xs.take (i * 3) ++ xs.drop ((i + 1) * 3) := by
  have hxl : xs.length = n * 3 := by rw [← hx]; simp; omega
  have h1 : (over cur (i * 3) (xs.drop ((i + 1) * 3))).take ((n - 1) * 3) = xs.take (i * 3) ++ xs.drop ((i + 1) * 3) := by
    unfold over
    have hlen : (cur.take (i * 3) ++ xs.drop ((i + 1) * 3)).length = (n - 1) * 3 := by simp; omega
    rw [List.take_append_of_le_length (by omega), List.take_of_length_le (by omega)]
    rw [← hx, List.take_take, Nat.min_eq_left (by omega)]
  have h2 : ∀ l : List Value, (n - 1) * 3 ≤ l.length → (over l ((n - 1) * 3) z).take ((n - 1) * 3) = l.take ((n - 1) * 3) := by
    intro l hl'
    unfold over
    rw [List.append_assoc, List.take_append_of_le_length (by simp; omega), List.take_of_length_le (by simp; omega)]
  rw [h2 _ (by rw [over_length]; omega; simp; omega), h1]

structure DelTo (w : World) (base g n cap i : Nat) (xs : List Value) (w' : World) : Prop where
  own : w'.ownsRow base 25 3 (.slice (some ⟨g, 0, none⟩) (n - 1) cap) (n - 1) (xs.take (i * 3) ++ xs.drop ((i + 1) * 3))
  turn : Turn (· = g) w w'
def DelPost (w : World) (base g n cap i : Nat) (xs : List Value) (e : Ending) (w' : World) : Prop := e = .returned (.slice (some ⟨g, 0, none⟩) (n - 1) cap) ∧ DelTo w base g n cap i xs w'

set_option maxRecDepth 100000 in
set_option maxHeartbeats 2000000 in
theorem del_ok (base g n cap i : Nat) (xs : List Value) (w : World) (h : w.ownsRow base 25 3 (.slice (some ⟨g, 0, none⟩) n cap) n xs) (h1c : ∀ u ∈ xs, u.oneCell' = true) (hi : i < n) :
    Calls Try.prog 37 #[.slice (some ⟨g, 0, none⟩) n cap, .int .i64 i, .int .i64 ((i : Int) + 1)] w (DelPost w base g n cap i xs) := by
  obtain ⟨i0, hi0, hz0, hz1, hz2⟩ := info_parts info25
  obtain ⟨hxl, h2⟩ := h
  rcases h2 with ⟨hv, _⟩ | ⟨g', cap', cur, hv, hbg, hblk, hnc, hmax, hcs, htk⟩
  · cases hv
  injection hv with e1 _ e3
  injection e1 with e1
  injection e1 with e1
  subst e1 e3
  unfold maxLen at hmax
  have hii : ((i : Int) == (i : Int) + 1) = false := by simp; omega
  have hcl3 : n * 3 ≤ cur.toList.length := by simp; omega
  obtain ⟨news, hnews⟩ : ∃ news, news = xs.drop ((i + 1) * 3) := ⟨_, rfl⟩
  have hlen : news.length = (n - (i + 1)) * 3 := by rw [hnews, List.length_drop, hxl]; omega
  obtain ⟨A, hA, hsrc⟩ : ∃ A : Addr, (if cap = i + 1 then some (⟨g, 0, none⟩ : Addr) else some ⟨g, (i + 1) * 3, none⟩) = some A ∧ Hid (∀ t u, news[t]? = some u → w.drew.cell? (A.add t) = some u) := by
    by_cases hc : cap = i + 1
    · refine ⟨⟨g, 0, none⟩, by simp [hc], fun t u hu => ?_⟩
      have h0 : news.length = 0 := by rw [hlen]; omega
      rw [List.length_eq_zero_iff.1 h0] at hu
      simp at hu
    · refine ⟨⟨g, (i + 1) * 3, none⟩, by simp [hc], fun t u hu => ?_⟩
      rw [add_mk]
      show w.cell? _ = _
      rw [(blk_cell hblk _).1, ← hu, hnews, ← htk, List.getElem?_drop, List.getElem?_take, Array.getElem?_toList]
      have : (i + 1) * 3 + t < n * 3 := by
        have := (List.getElem?_eq_some_iff.1 hu).1
        rw [hlen] at this
        omega
      rw [if_pos this]
  have s1 : Hid (news.length = (n - (i + 1)) * 3) := hlen
  have s2 : Hid (∀ u ∈ news, u.oneCell' = true) := fun u hu => h1c u (by rw [hnews] at hu; exact List.mem_of_mem_drop hu)
  have s3 : Hid (∀ t, t < news.length → (w.drew.cell? ⟨g, 0 + i * 3 + t, none⟩).isSome = true ∧ w.drew.frozen? ⟨g, 0 + i * 3 + t, none⟩ = false) := by
    intro t ht
    rw [hlen] at ht
    refine ⟨?_, (blk_cell hblk _).2⟩
    show (w.cell? _).isSome = true
    rw [(blk_cell hblk _).1, Array.getElem?_eq_getElem (by rw [hcs]; omega)]
    rfl
  obtain ⟨W1, hW1⟩ : ∃ W1, W1 = w.drew.setCells g (0 + i * 3) news := ⟨_, rfl⟩
  obtain ⟨b1, t1⟩ := setCells_block g 25 news (0 + i * 3) w.drew cur hblk (by rw [hlen, hcs]; omega)
  rw [← hW1, Nat.zero_add] at b1
  rw [← hW1] at t1
  have hc1 : (over cur.toList (i * 3) news).length = cap * 3 := by rw [over_length _ _ _ (by rw [hlen]; simp; omega)]; simpa using hcs
  have hcl : ∀ ty, (Builtin.clear_ #[22] ty #[.slice (some ⟨g, (i + (n - (i + 1))) * 3, none⟩) (n - (i + (n - (i + 1)))) (cap - (i + (n - (i + 1))))]).run Try.prog W1 = .ok (.tuple #[]) (W1.setCells g ((n - 1) * 3) [.int .i64 0, .int .i64 0, .string ⟨#[]⟩]) := by
    intro ty
    rw [show n - (i + (n - (i + 1))) = 1 by omega, show i + (n - (i + 1)) = n - 1 by omega]
    refine run_clear3 W1 ty g ((n - 1) * 3) _ (fun j hj => ?_) (fun j hj => (blk_cell b1 _).2)
    rw [(blk_cell b1 _).1, Array.getElem?_eq_getElem (by simp only [List.size_toArray]; rw [hc1]; omega)]
    rfl
  obtain ⟨b2, t2⟩ := setCells_block g 25 [.int .i64 0, .int .i64 0, .string ⟨#[]⟩] ((n - 1) * 3) W1 _ b1 (by simp only [List.size_toArray, List.length_cons, List.length_nil]; rw [hc1]; omega)
  have fin : DelTo w base g n cap i xs (W1.setCells g ((n - 1) * 3) [.int .i64 0, .int .i64 0, .string ⟨#[]⟩]) := by
    refine ⟨⟨?_, .inr ⟨g, cap, _, rfl, hbg, b2, by omega, by unfold maxLen; omega, ?_, ?_⟩⟩, ?_⟩
    · simp; omega
    · simp only [List.size_toArray]
      rw [over_length _ _ _ (by simp only [List.length_cons, List.length_nil]; rw [hc1]; omega)]
      exact hc1
    · simp only
      rw [hnews]
      exact over_take cur.toList xs n i _ htk hcl3 hi
    · exact Turn.trans ⟨t1.os, t1.tape, t1.output, t1.size, t1.block⟩ t2
  have FIN := hide fin
  have hW : Hid (W1 = w.drew.setCells g (0 + i * 3) news) := hW1
  have hic : i ≤ cap := by omega
  have hjc : i + 1 ≤ cap := by omega
  have hb1 : (0 : Int) ≤ (i : Int) + 1 := by omega
  have hb2 : (i : Int) + 1 ≤ (n : Int) := by omega
  clear hW1 b1 b2 t1 t2 fin hlen hnews hblk htk hcs hc1 hxl h1c hcl3
  go_enter Try.func37, Try.ntmps37
  go_wp2_with fail
  go_region_law (refine step_append_room rfl (.tmp 22) (.tmp 25) 22 rfl 25 i0 3 Try.underlying22 hi0 hz1 g 0 i cap (by simp [Act.eval, Act.put]) A (n - (i + 1)) (cap - (i + 1)) news (by simp [Act.eval, Act.put]) s1.out hsrc.out s2.out (by omega) s3.out ?_; rw [← hW.out])
  go_wp2
  go_ret
  refine ⟨?_, FIN.out⟩
  show Ending.returned (.slice _ (i + (n - (i + 1))) _) = _
  rw [show i + (n - (i + 1)) = n - 1 by omega]
end Go.Proofs.Ytniiikgkeiomoaa
