/-
  slices.Clone and slices.Delete of one numbers-item; own.
-/
import Derived.Test.YtcaeechlpadboaaM3I
import Derived.Lib.SlicesDelete
import Derived.Lib.SliceRun
namespace Go.Proofs.Ytcaeechlpadboaa.MI
open Go.RowKit Go.Maps

/-- A row that was just made. -/
def NewRow (w : World) (n : Nat) (xs : List Value) (e : Ending) (w' : World) : Prop := ∃ v, e = .returned v ∧ w'.ownsRow w.heap.size 89 2 v n xs ∧ Turn (fun _ => False) w w'

set_option maxHeartbeats 1000000 in
theorem clone_any (v : Value) (n : Nat) (xs : List Value) (w : World) (h : Rd w 2 v n xs) (h1 : ∀ u ∈ xs, u.oneCell' = true) (hm : n ≤ 1000000) :
    Calls Try.prog 65 #[v] w (NewRow w n xs) := by
  obtain ⟨i0, hi, hz0, hz1, hz2⟩ := info_parts infoI
  obtain ⟨A, c, rfl⟩ := h.shape
  have hq := fun w A => Lib.run_eql_slice_nil (P := Try.prog) w 90 89 A n c 0 0 Try.underlying90
  cases A with
  | none =>
    obtain ⟨hl, A', c', e, hnil, _⟩ := h
    injection e with e1 e2 e3
    subst e1 e3
    obtain ⟨rfl, rfl⟩ := hnil rfl
    obtain rfl : xs = [] := List.eq_nil_of_length_eq_zero (by simpa using hl)
    clear h1 hl hnil
    go_enter Try.func65, Try.ntmps65
    go_wp2
    go_ret
    exact ⟨_, rfl, World.ownsRow_nil _ _ _ _, Turn.refl _ _⟩
  | some a =>
    have HR := hide h
    have H1 := hide h1
    have own : (w.alloc (.cells #[] 89)).ownsRow w.heap.size 89 2 (.slice (some ⟨w.heap.size, 0, none⟩) 0 0) 0 [] :=
      ⟨rfl, .inr ⟨w.heap.size, 0, #[], rfl, Nat.le_refl _, heap_alloc_new w _, Nat.le_refl _, by unfold maxLen; omega, rfl, rfl⟩⟩
    clear h h1
    go_enter Try.func65, Try.ntmps65
    go_wp2_with (at_builtin; refine wpList_appendRd rfl (.tmp 5) (.tmp 6) 90 rfl w.heap.size 89 i0 _ 2 24 Try.underlying90 hi hz0 hz1 hz2 rfl (by decide) (.slice (some ⟨w.heap.size, 0, none⟩) 0 0) 0 [] (by simp [Act.eval]) (by exact own) (.slice (some a) n c) n xs (by simp [Act.eval]) (by exact HR.out.turn ((Turn.refl (fun _ => False) w).alloc _) (fun _ _ _ h => h)) H1.out (by omega) (by omega) (by simp) ?_; intro v' w' own' t' new')
    go_ret
    refine ⟨v', rfl, by simpa using own', ?_⟩
    exact ((Turn.refl (fun _ => False) w).alloc (.cells #[] 89)).step t' (fun k hk e => by injection e with e; simp at e; omega)

theorem run_clear2 (w : World) (ty : TypeId) (b o c : Nat) (hc : ∀ j, j < 2 → (w.cell? ⟨b, o + j, none⟩).isSome = true) (hf : ∀ j, j < 2 → w.frozen? ⟨b, o + j, none⟩ = false) :
    (Builtin.clear_ #[90] ty #[.slice (some ⟨b, o, none⟩) 1 c]).run Try.prog w = .ok (.tuple #[]) (w.setCells b o [.string ⟨#[]⟩, vv (0 : Int)]) := by
  have hz : ∀ w, (zeroValue 89).run Try.prog w = .ok (.agg #[.string ⟨#[]⟩, vv (0 : Int)]) w := fun w => by kernel_rfl
  have hst := run_storeCells_cells (P := Try.prog) b o [.string ⟨#[]⟩, vv (0 : Int)] 0 w (by simpa using hc) (by simpa using hf) (by intro v hv; simp at hv; rcases hv with rfl | rfl <;> rfl)
  simp only [Nat.add_zero] at hst
  have hzc : (Builtin.zeroCells (Value.agg #[.string ⟨#[]⟩, vv (0 : Int)]).cells 1).toList = [.string ⟨#[]⟩, vv (0 : Int)] := by kernel_rfl
  simp [Builtin.clear_, run_underlying Try.underlying90, hz, hzc, hst]

structure DelTo (w : World) (base g n cap i : Nat) (xs : List Value) (w' : World) : Prop where
  own : w'.ownsRow base 89 2 (.slice (some ⟨g, 0, none⟩) (n - 1) cap) (n - 1) (xs.take (i * 2) ++ xs.drop ((i + 1) * 2))
  turn : Turn (· = g) w w'
def DelPost (w : World) (base g n cap i : Nat) (xs : List Value) (e : Ending) (w' : World) : Prop := e = .returned (.slice (some ⟨g, 0, none⟩) (n - 1) cap) ∧ DelTo w base g n cap i xs w'

set_option maxRecDepth 100000 in
set_option maxHeartbeats 2000000 in
theorem del_ok (base g n cap i : Nat) (xs : List Value) (w : World) (h : w.ownsRow base 89 2 (.slice (some ⟨g, 0, none⟩) n cap) n xs) (h1c : ∀ u ∈ xs, u.oneCell' = true) (hi : i < n) :
    Calls Try.prog 59 #[.slice (some ⟨g, 0, none⟩) n cap, .int .i64 i, .int .i64 ((i : Int) + 1)] w (DelPost w base g n cap i xs) := by
  obtain ⟨i0, hi0, hz0, hz1, hz2⟩ := info_parts infoI
  obtain ⟨hxl, h2⟩ := h
  rcases h2 with ⟨hv, _⟩ | ⟨g', cap', cur, hv, hbg, hblk, hnc, hmax, hcs, htk⟩
  · cases hv
  injection hv with e1 _ e3
  injection e1 with e1
  injection e1 with e1
  subst e1 e3
  unfold maxLen at hmax
  have hii : ((i : Int) == (i : Int) + 1) = false := by simp; omega
  have hcl3 : n * 2 ≤ cur.toList.length := by simp; omega
  obtain ⟨news, hnews⟩ : ∃ news, news = xs.drop ((i + 1) * 2) := ⟨_, rfl⟩
  have hlen : news.length = (n - (i + 1)) * 2 := by rw [hnews, List.length_drop, hxl]; omega
  obtain ⟨A, hA, hsrc⟩ : ∃ A : Addr, (if cap = i + 1 then some (⟨g, 0, none⟩ : Addr) else some ⟨g, (i + 1) * 2, none⟩) = some A ∧ Hid (∀ t u, news[t]? = some u → w.drew.cell? (A.add t) = some u) := by
    by_cases hc : cap = i + 1
    · refine ⟨⟨g, 0, none⟩, by simp [hc], fun t u hu => ?_⟩
      have h0 : news.length = 0 := by rw [hlen]; omega
      rw [List.length_eq_zero_iff.1 h0] at hu
      simp at hu
    · refine ⟨⟨g, (i + 1) * 2, none⟩, by simp [hc], fun t u hu => ?_⟩
      rw [add_mk]
      show w.cell? _ = _
      rw [(blk_cell hblk _).1, ← hu, hnews, ← htk, List.getElem?_drop, List.getElem?_take, Array.getElem?_toList]
      have : (i + 1) * 2 + t < n * 2 := by
        have := (List.getElem?_eq_some_iff.1 hu).1
        rw [hlen] at this
        omega
      rw [if_pos this]
  have s1 : Hid (news.length = (n - (i + 1)) * 2) := hlen
  have s2 : Hid (∀ u ∈ news, u.oneCell' = true) := fun u hu => h1c u (by rw [hnews] at hu; exact List.mem_of_mem_drop hu)
  have s3 : Hid (∀ t, t < news.length → (w.drew.cell? ⟨g, 0 + i * 2 + t, none⟩).isSome = true ∧ w.drew.frozen? ⟨g, 0 + i * 2 + t, none⟩ = false) := by
    intro t ht
    rw [hlen] at ht
    refine ⟨?_, (blk_cell hblk _).2⟩
    show (w.cell? _).isSome = true
    rw [(blk_cell hblk _).1, Array.getElem?_eq_getElem (by rw [hcs]; omega)]
    rfl
  obtain ⟨W1, hW1⟩ : ∃ W1, W1 = w.drew.setCells g (0 + i * 2) news := ⟨_, rfl⟩
  obtain ⟨b1, t1⟩ := setCells_block g 89 news (0 + i * 2) w.drew cur hblk (by rw [hlen, hcs]; omega)
  rw [← hW1, Nat.zero_add] at b1
  rw [← hW1] at t1
  have hc1 : (over cur.toList (i * 2) news).length = cap * 2 := by rw [over_length _ _ _ (by rw [hlen]; simp; omega)]; simpa using hcs
  have hcl : ∀ ty, (Builtin.clear_ #[90] ty #[.slice (some ⟨g, (i + (n - (i + 1))) * 2, none⟩) (n - (i + (n - (i + 1)))) (cap - (i + (n - (i + 1))))]).run Try.prog W1 = .ok (.tuple #[]) (W1.setCells g ((n - 1) * 2) [.string ⟨#[]⟩, vv (0 : Int)]) := by
    intro ty
    rw [show n - (i + (n - (i + 1))) = 1 by omega, show i + (n - (i + 1)) = n - 1 by omega]
    refine run_clear2 W1 ty g ((n - 1) * 2) _ (fun j hj => ?_) (fun j hj => (blk_cell b1 _).2)
    rw [(blk_cell b1 _).1, Array.getElem?_eq_getElem (by simp only [List.size_toArray]; rw [hc1]; omega)]
    rfl
  obtain ⟨b2, t2⟩ := setCells_block g 89 [.string ⟨#[]⟩, vv (0 : Int)] ((n - 1) * 2) W1 _ b1 (by simp only [List.size_toArray, List.length_cons, List.length_nil]; rw [hc1]; omega)
  have fin : DelTo w base g n cap i xs (W1.setCells g ((n - 1) * 2) [.string ⟨#[]⟩, vv (0 : Int)]) := by
    refine ⟨⟨?_, .inr ⟨g, cap, _, rfl, hbg, b2, by omega, by unfold maxLen; omega, ?_, ?_⟩⟩, ?_⟩
    · simp; omega
    · simp only [List.size_toArray]
      rw [over_length _ _ _ (by simp only [List.length_cons, List.length_nil]; rw [hc1]; omega)]
      exact hc1
    · simp only
      rw [hnews]
      exact del_list cur.toList xs n i _ htk hcl3 hi
    · exact Turn.trans ⟨t1.os, t1.tape, t1.output, t1.size, t1.block⟩ t2
  have FIN := hide fin
  have hW : Hid (W1 = w.drew.setCells g (0 + i * 2) news) := hW1
  have hic : i ≤ cap := by omega
  have hjc : i + 1 ≤ cap := by omega
  have hb1 : (0 : Int) ≤ (i : Int) + 1 := by omega
  have hb2 : (i : Int) + 1 ≤ (n : Int) := by omega
  clear hW1 b1 b2 t1 t2 fin hlen hnews hblk htk hcs hc1 hxl h1c hcl3
  go_enter Try.func59, Try.ntmps59
  go_wp2_with fail
  go_region_law (refine step_append_room rfl (.tmp 22) (.tmp 25) 90 rfl 89 i0 2 Try.underlying90 hi0 hz1 g 0 i cap (by simp [Act.eval, Act.put]) A (n - (i + 1)) (cap - (i + 1)) news (by simp [Act.eval, Act.put]) s1.out hsrc.out s2.out (by omega) s3.out ?_; rw [← hW.out])
  go_wp2
  go_ret
  refine ⟨?_, FIN.out⟩
  show Ending.returned (.slice _ (i + (n - (i + 1))) _) = _
  rw [show i + (n - (i + 1)) = n - 1 by omega]

theorem ownsRow_low {w : World} {b base : Nat} {e : TypeId} {size : Nat} {v : Value} {n : Nat} {xs : List Value} (h : w.ownsRow base e size v n xs) (hb : b ≤ base) : w.ownsRow b e size v n xs := by
  refine ⟨h.1, ?_⟩
  rcases h.2 with h6 | ⟨g, cap, cur, hv, hg, r⟩
  · exact .inl h6
  · exact .inr ⟨g, cap, cur, hv, Nat.le_trans hb hg, r⟩

section
variable {base : Nat} {w0 w : World} {ts : List Thing} {j k T : Nat} {v : Value} {lent : Bool} {xs : List Ent}
set_option maxRecDepth 100000 in
/-- Nobody goes over them: it stays. -/
theorem own_stay (a : At base ts j k T v false xs) (h : Lie base w0 w ts) : Calls Try.prog 56 #[pt T] w (TL (.tuple #[]) base w0 ts) := by
  obtain ⟨c0, c1, f0, f1⟩ := mcells (h.get j a.hj)
  have H := hide h
  clear h a
  go_enter Try.func56, Try.ntmps56
  go_wp2_with fail
  refine bodyPost_end (results_none rfl _ _ _) rfl ?_
  exact ⟨rfl, H⟩
set_option maxRecDepth 100000 in
/-- Somebody may: a row of its own. -/
theorem own_new (a : At base ts j k T v true xs) (h : Lie base w0 w ts) : Calls Try.prog 56 #[pt T] w fun e w' => e = .returned (.tuple #[]) ∧ ∃ v', Hid (Lie base w0 w' (row base 89 2 v' xs.length (cells xs) :: ts.set j (box T (mobj v' false)))) := by
  obtain ⟨A, c, rfl, hr⟩ := a.rd h
  obtain ⟨c0, c1, f0, f1⟩ := mcells (h.get j a.hj)
  have hcl := clone_any _ _ _ w hr (cells_one xs) (by have := a.hn; omega)
  have HC := hide hcl
  have H := hide h
  have AA := hide a
  clear h a hr hcl
  go_enter Try.func56, Try.ntmps56
  go_wp2_with fail
  refine HC.out.mono ?_
  rintro e w1 ⟨v', rfl, own', t1⟩
  obtain ⟨A', c', rfl⟩ := (Rd.of_own own').shape
  have H1 : Lie base w0 w1 (row base 89 2 (.slice A' xs.length c') xs.length (cells xs) :: ts) := H.out.push t1 (ownsRow_low own' H.out.base_le) (fun g hg => (ownsRow_base own' hg).1)
  have hT : (row base 89 2 (.slice A' xs.length c') xs.length (cells xs) :: ts)[j + 1]? = some (box T (mobj (.slice A xs.length c) true)) := AA.out.hj
  obtain ⟨d0, d1, g0, g1⟩ := mcells (H1.get (j + 1) hT)
  have H2 := H1.setBox (j + 1) hT 0 (.slice A' xs.length c')
  have hT2 : ((row base 89 2 (.slice A' xs.length c') xs.length (cells xs) :: ts).set (j + 1) (box T (mobj (.slice A' xs.length c') true)))[j + 1]? = some (box T (mobj (.slice A' xs.length c') true)) := List.getElem?_set_self (List.getElem?_eq_some_iff.1 hT).1
  have H3 := H2.setBox (j + 1) hT2 1 (.bool false)
  have HF : Hid (Lie base w0 ((w1.setCell ⟨T, 0, none⟩ (.slice A' xs.length c')).setCell ⟨T, 1, none⟩ (.bool false)) (row base 89 2 (.slice A' xs.length c') xs.length (cells xs) :: ts.set j (box T (mobj (.slice A' xs.length c') false)))) := hide (by simpa using H3)
  clear own' t1 H1 hT H2 hT2 H3 c0 c1 f0 f1
  go_wp2_with fail
  refine bodyPost_end (results_none rfl _ _ _) rfl ?_
  exact ⟨rfl, _, HF⟩
end
end Go.Proofs.Ytcaeechlpadboaa.MI
