/-
  slices.Insert of one numbers-item; slices.Clone.
-/
import Derived.Test.YtcaeechlpadboaaM2I
import Derived.Test.YtcaeechlpadboaaRws
namespace Go.Proofs.Ytcaeechlpadboaa.MI
open Go.RowKit Go.Lib

theorem infoI : (Try.prog.info? 89).map (fun i => (i.zero, i.size, i.bytes)) = some (some (.agg #[.string ⟨#[]⟩, vv (0 : Int)]), 2, 24) := by kernel_rfl
/-- What an insertion leaves. -/
structure InsTo (base : Nat) (v : Value) (n i : Nat) (ys : List Value) (a b : Value) (w : World) (v' : Value) (w' : World) : Prop where
  own : w'.ownsRow base 89 2 v' (n + 1) (ys.take (i * 2) ++ [a, b] ++ ys.drop (i * 2))
  turn : Turn (fun k => v.ownBlock = some k) w w'
  new : Newer w v v'
def InsPost (base : Nat) (v : Value) (n i : Nat) (ys : List Value) (a b : Value) (w : World) (e : Ending) (w' : World) : Prop := ∃ v', e = .returned v' ∧ InsTo base v n i ys a b w v' w'

set_option maxRecDepth 100000 in
set_option maxHeartbeats 2000000 in
/-- At the end. -/
theorem ins_end (base : Nat) (v : Value) (n : Nat) (ys : List Value) (vb : Nat) (a b : Value) (w : World) (h : w.ownsRow base 89 2 v n ys) (ha : a.oneCell' = true) (hb1 : b.oneCell' = true) (hn : n ≤ 100000)
    (hv : w.heap[vb]? = some (.cells #[a, b] 89 (0, 0))) (hbase : base ≤ w.heap.size) :
    Calls Try.prog 57 #[v, .int .i64 n, .slice (some ⟨vb, 0, none⟩) 1 1] w (InsPost base v n n ys a b w) := by
  obtain ⟨i0, hi0, hz0, hz1, hz2⟩ := info_parts infoI
  have hyl := h.1
  have hr : Rd w 2 (.slice (some ⟨vb, 0, none⟩) 1 1) 1 [a, b] := by
    refine ⟨rfl, _, _, rfl, fun h => (by cases h), fun _ => ⟨vb, 0, rfl, box_lt hv, fun j u hj => ?_⟩⟩
    rw [(blk_cell hv _).1]
    match j, hj with
    | 0, hj => simpa using hj
    | 1, hj => simpa using hj
    | j + 2, hj => simp at hj
  have HR := hide hr
  have h1 : Hid (∀ u ∈ [a, b], u.oneCell' = true) := hide (by intro u hu; simp at hu; rcases hu with rfl | rfl <;> assumption)
  have fin : Hid (∀ v' w', w'.ownsRow base 89 2 v' (n + 1) (ys ++ [a, b]) → Turn (fun k => v.ownBlock = some k) w w' → Newer w v v' → InsTo base v n n ys a b w v' w') := hide (fun v' w' h2 h3 h4 => by
    refine ⟨?_, h3, h4⟩
    rw [← hyl, List.take_length, List.drop_length, List.append_nil]
    exact h2)
  have HH := hide h
  obtain ⟨A, c, hvv⟩ := (Rd.of_own h).shape
  have hvA : A = none ∨ ∃ g, A = some ⟨g, 0, none⟩ := by
    rcases h.2 with ⟨h5, _⟩ | ⟨g, cap, cur, h5, _⟩
    · rw [hvv] at h5; injection h5 with h6; exact .inl h6
    · rw [hvv] at h5; injection h5 with h6; exact .inr ⟨g, h6⟩
  have hnc : n ≤ c := by
    rcases h.2 with ⟨h5, h6⟩ | ⟨g, cap, cur, h5, _, _, h6, _⟩
    · omega
    · rw [hvv] at h5; injection h5 with _ _ h7; omega
  have hn0 : A = none → n = 0 ∧ c = 0 := by
    intro hA
    rcases h.2 with ⟨h5, h6⟩ | ⟨g, cap, cur, h5, _⟩
    · rw [hvv] at h5; injection h5 with _ _ h7; exact ⟨h6, h7⟩
    · rw [hvv, hA] at h5; cases h5
  clear hyl h hv hr
  subst hvv
  rcases hvA with rfl | ⟨g, rfl⟩
  · obtain ⟨rfl, rfl⟩ := hn0 rfl
    clear hn0 hnc
    go_enter Try.func57, Try.ntmps57
    go_wp2_with (at_builtin; refine wpList_appendRd rfl (.tmp 23) (.tmp 24) 90 rfl base 89 i0 _ 2 24 Try.underlying90 hi0 hz0 hz1 hz2 rfl (by decide) (.slice none 0 0) 0 ys (by simp [Act.eval]) HH.out (.slice (some ⟨vb, 0, none⟩) 1 1) 1 [a, b] (by simp [Act.eval]) HR.out h1.out (by omega) (by decide) hbase ?_; intro v' w' g1 g2 g3; have F := hide (fin.out v' w' g1 g2 g3); clear g1 g2 g3)
    go_ret
    exact ⟨_, rfl, F.out⟩
  · clear hn0
    rcases Nat.eq_or_lt_of_le hnc with rfl | hlt
    · go_enter Try.func57, Try.ntmps57
      go_wp2_with (at_builtin; refine wpList_appendRd rfl (.tmp 23) (.tmp 24) 90 rfl base 89 i0 _ 2 24 Try.underlying90 hi0 hz0 hz1 hz2 rfl (by decide) (.slice (some ⟨g, 0, none⟩) n n) n ys (by simp [Act.eval]) HH.out (.slice (some ⟨vb, 0, none⟩) 1 1) 1 [a, b] (by simp [Act.eval]) HR.out h1.out (by omega) (by decide) hbase ?_; intro v' w' g1 g2 g3; have F := hide (fin.out v' w' g1 g2 g3); clear g1 g2 g3)
      go_ret
      exact ⟨_, rfl, F.out⟩
    · have hcn : ¬ c = n := by omega
      go_enter Try.func57, Try.ntmps57
      go_wp2_with (at_builtin; refine wpList_appendRd rfl (.tmp 23) (.tmp 24) 90 rfl base 89 i0 _ 2 24 Try.underlying90 hi0 hz0 hz1 hz2 rfl (by decide) (.slice (some ⟨g, 0, none⟩) n c) n ys (by simp [Act.eval]) HH.out (.slice (some ⟨vb, 0, none⟩) 1 1) 1 [a, b] (by simp [Act.eval]) HR.out h1.out (by omega) (by decide) hbase ?_; intro v' w' g1 g2 g3; have F := hide (fin.out v' w' g1 g2 g3); clear g1 g2 g3)
      go_ret
      exact ⟨_, rfl, F.out⟩

set_option maxRecDepth 100000 in
set_option maxHeartbeats 4000000 in
/-- Amid, and there is room. -/
theorem ins_room (base g n c i : Nat) (ys : List Value) (vb : Nat) (a b : Value) (w : World) (h : w.ownsRow base 89 2 (.slice (some ⟨g, 0, none⟩) n c) n ys) (h1c : ∀ u ∈ ys, u.oneCell' = true) (ha : a.oneCell' = true) (hb1 : b.oneCell' = true) (hi : i < n) (hroom : n + 1 ≤ c)
    (hv : w.heap[vb]? = some (.cells #[a, b] 89 (0, 0))) (hne : vb ≠ g) :
    Calls Try.prog 57 #[.slice (some ⟨g, 0, none⟩) n c, .int .i64 i, .slice (some ⟨vb, 0, none⟩) 1 1] w (InsPost base (.slice (some ⟨g, 0, none⟩) n c) n i ys a b w) := by
  obtain ⟨i0, hi0, hz0, hz1, hz2⟩ := info_parts infoI
  obtain ⟨hyl, h2⟩ := h
  rcases h2 with ⟨hx, _⟩ | ⟨g', cap', cur, hx, hbg, hblk, hnc, hmax, hcs, htk⟩
  · cases hx
  injection hx with e1 _ e3
  injection e1 with e1
  injection e1 with e1
  subst e1 e3
  unfold maxLen at hmax
  have hsz : (Try.prog.info? 89).map (·.size) = some 2 := by rw [hi0]; simp [hz1]
  have hov : ∀ lb cb, (callFunc 76 #[.slice (some ⟨vb, 0, none⟩) 1 1, .slice (some ⟨g, (i + 1) * 2, none⟩) lb cb]).run Try.prog w = .ok (.value (.bool false)) w := fun lb cb => by
    rw [run_callFunc_extern Try.func76 (by kernel_rfl) (by kernel_rfl) (by kernel_rfl) (e := Extern.SlicesOverlaps.overlaps #[90, 90] #[4]) (by kernel_rfl),
      Lib.run_overlaps_apart w 90 4 89 Try.underlying90 2 (fun w => by kernel_rfl) ⟨vb, 0, none⟩ ⟨g, (i + 1) * 2, none⟩ 1 1 lb cb hne 89 89 2 cur.size (by simp [World.shape?, hv]) (by simp [World.shape?, hblk]) (by omega) (by simp [World.frozen?, hv]) (by simp [World.frozen?, hv])]
    rfl
  have hcl : n * 2 ≤ cur.toList.length := by simp; omega
  obtain ⟨tl, htl⟩ : ∃ tl, tl = ys.drop (i * 2) := ⟨_, rfl⟩
  have htll : tl.length = (n - i) * 2 := by rw [htl, List.length_drop, hyl]; omega
  obtain ⟨b1, t1⟩ := setCells_block g 89 tl ((i + 1) * 2) w.drew cur hblk (by rw [htll, hcs]; omega)
  obtain ⟨W1, hW1⟩ : ∃ W1, W1 = w.drew.setCells g ((i + 1) * 2) tl := ⟨_, rfl⟩
  rw [← hW1] at b1 t1
  have hl1 : (over cur.toList ((i + 1) * 2) tl).length = c * 2 := by rw [over_length _ _ _ (by rw [htll]; simp; omega)]; simpa using hcs
  have hv1 : W1.heap[vb]? = some (.cells #[a, b] 89 (0, 0)) := t1.obj hv hne
  obtain ⟨b2, t2⟩ := setCells_block g 89 [a, b] (i * 2) W1 _ b1 (by simp only [List.size_toArray, List.length_cons, List.length_nil]; rw [hl1]; omega)
  obtain ⟨W2, hW2⟩ : ∃ W2, W2 = W1.setCells g (i * 2) [a, b] := ⟨_, rfl⟩
  rw [← hW2] at b2 t2
  have hcp1 : ∀ ty dc sc, (Builtin.copy_ #[90, 90] ty #[.slice (some ⟨g, (i + 1) * 2, none⟩) (n - i) dc, .slice (some ⟨g, i * 2, none⟩) (n + 1 - i) sc]).run Try.prog w.drew = .ok (goInt ((n - i : Nat) : Int)) W1 := fun ty dc sc => by
    have hmin : Nat.min (n + 1 - i) (n - i) = n - i := by simp only [Nat.min_def]; split <;> omega
    have := run_copy_k (P := Try.prog) w.drew 90 90 ty 89 2 g ((i + 1) * 2) (n - i) dc ⟨g, i * 2, none⟩ (n + 1 - i) sc tl Try.underlying90 hsz (by rw [htll, hmin])
      (fun j u hj => by
        rw [add_mk]
        show w.cell? _ = _
        rw [(blk_cell hblk _).1, ← hj, htl, List.getElem?_drop, ← htk, List.getElem?_take, Array.getElem?_toList]
        have : i * 2 + j < n * 2 := by
          have := (List.getElem?_eq_some_iff.1 hj).1
          rw [htll] at this
          omega
        rw [if_pos this])
      (fun j hj => by
        show (w.cell? _).isSome = true
        rw [(blk_cell hblk _).1, Array.getElem?_eq_getElem (by rw [hcs]; rw [htll] at hj; omega)]
        rfl)
      (fun j _ => (blk_cell hblk _).2) (fun u hu => h1c u (by rw [htl] at hu; exact List.mem_of_mem_drop hu))
    rw [hmin, ← hW1] at this
    exact this
  have hcp2 : ∀ ty dc, (Builtin.copy_ #[90, 90] ty #[.slice (some ⟨g, i * 2, none⟩) (n + 1 - i) dc, .slice (some ⟨vb, 0, none⟩) 1 1]).run Try.prog W1 = .ok (goInt 1) W2 := fun ty dc => by
    have hmin : Nat.min 1 (n + 1 - i) = 1 := by simp only [Nat.min_def]; split <;> omega
    have := run_copy_k (P := Try.prog) W1 90 90 ty 89 2 g (i * 2) (n + 1 - i) dc ⟨vb, 0, none⟩ 1 1 [a, b] Try.underlying90 hsz (by rw [hmin]; rfl)
      (fun j u hj => by
        rw [add_mk, (blk_cell hv1 _).1, ← hj]
        match j with
        | 0 => rfl
        | 1 => rfl
        | j + 2 => simp)
      (fun j hj => by
        rw [(blk_cell b1 _).1, Array.getElem?_eq_getElem (by simp only [List.size_toArray]; rw [hl1]; simp at hj; omega)]
        rfl)
      (fun j _ => (blk_cell b1 _).2) (fun u hu => by simp at hu; rcases hu with rfl | rfl <;> assumption)
    rw [hmin, ← hW2] at this
    exact this
  have fin : InsTo base (.slice (some ⟨g, 0, none⟩) n c) n i ys a b w (.slice (some ⟨g, 0, none⟩) (n + 1) c) W2 := by
    refine ⟨⟨?_, .inr ⟨g, c, _, rfl, hbg, b2, hroom, by unfold maxLen; omega, ?_, ?_⟩⟩, ?_, fun _ h => .inl h⟩
    · simp [hyl]; omega
    · simp only [List.size_toArray]
      rw [over_length _ _ _ (by simp only [List.length_cons, List.length_nil]; rw [hl1]; omega)]
      exact hl1
    · simp only
      rw [htl]
      exact ins_list cur.toList ys n i [a, b] rfl htk (by simp; omega) hi
    · have t3 : Turn (· = g) w W2 := Turn.trans ⟨t1.os, t1.tape, t1.output, t1.size, t1.block⟩ t2
      exact t3.mono (fun k _ h => by rw [h]; rfl)
  have FIN := hide fin
  have hii : ¬ ((i : Int) = (n : Int)) := by omega
  have hw1 : IntKind.i64.wrap ((i : Int) + 1) = (i : Int) + 1 := by rw [IntKind.wrap_i64]; omega
  have hb1' : (0 : Int) ≤ (i : Int) + 1 := by omega
  have htn : ((i : Int) + 1).toNat = i + 1 := by omega
  have hb2 : ¬ (c = i + 1) := by omega
  have hb4 : ¬ (c = i) := by omega
  have hb3 : (i : Int) ≤ (n : Int) + 1 := by omega
  have hin : i ≤ n := by omega
  clear hW1 hW2 b1 b2 t1 t2 hv1 fin htl htll hl1 hblk htk hcs hyl h1c hcl hv
  go_enter Try.func57, Try.ntmps57
  go_wp2_with (simp only [hov])
  go_region_law (refine step_copy_run rfl _ _ 90 90 rfl _ _ (by simp [Act.eval, Act.put]) (by simp [Act.eval, Act.put]) (hcp1 _ _ _) ?_)
  go_wp2_with (at_builtin; refine wpList_copy_run _ rfl _ _ 90 90 rfl _ _ rfl rfl (hcp2 _ _) ?_)
  go_ret
  exact ⟨_, rfl, FIN.out⟩

set_option maxRecDepth 100000 in
set_option maxHeartbeats 4000000 in
/-- Amid, and there is no room: a new row. -/
theorem ins_grow (base g n i : Nat) (ys : List Value) (vb : Nat) (a b : Value) (w : World) (h : w.ownsRow base 89 2 (.slice (some ⟨g, 0, none⟩) n n) n ys) (h1c : ∀ u ∈ ys, u.oneCell' = true) (ha : a.oneCell' = true) (hb1 : b.oneCell' = true) (hi : i < n) (hn : n ≤ 100000)
    (hv : w.heap[vb]? = some (.cells #[a, b] 89 (0, 0))) (hbase : base ≤ w.heap.size) :
    Calls Try.prog 57 #[.slice (some ⟨g, 0, none⟩) n n, .int .i64 i, .slice (some ⟨vb, 0, none⟩) 1 1] w (InsPost base (.slice (some ⟨g, 0, none⟩) n n) n i ys a b w) := by
  obtain ⟨i0, hi0, hz0, hz1, hz2⟩ := info_parts infoI
  obtain ⟨hyl, h2⟩ := h
  rcases h2 with ⟨hx, _⟩ | ⟨g', cap', cur, hx, hbg, hblk, hnc, hmax, hcs, htk⟩
  · cases hx
  injection hx with e1 _ e3
  injection e1 with e1
  injection e1 with e1
  subst e1 e3
  have hsz : (Try.prog.info? 89).map (·.size) = some 2 := by rw [hi0]; simp [hz1]
  have hgw : g < w.heap.size := box_lt hblk
  have hvw : vb < w.heap.size := box_lt hv
  have hold : (Builtin.firstCells i0.size i (.slice (some ⟨g, 0, none⟩) i n)).run Try.prog w.drew = .ok (ys.take (i * 2)).toArray w.drew := by
    rw [hz1]
    exact run_firstCells_some (w := w.drew) 2 i ⟨g, 0, none⟩ i n (ys.take (i * 2)) (by rw [List.length_take]; omega) (fun j u hj => by
      rw [add_mk]
      show w.cell? _ = _
      rw [(blk_cell hblk _).1]
      rw [List.getElem?_take] at hj
      split at hj
      · rw [← hj, ← htk, List.getElem?_take, if_pos (by omega), Array.getElem?_toList]; congr 1; omega
      · cases hj)
  obtain ⟨G, hG⟩ : ∃ G, G = grownCap w (n + 1) n 89 := ⟨_, rfl⟩
  obtain ⟨Z, hZ⟩ : ∃ Z : List Value, Z = (Builtin.zeroCells (Value.agg #[.string ⟨#[]⟩, vv (0 : Int)]).cells (n + 1 - i)).toList ++ (Builtin.zeroCells (Value.agg #[.string ⟨#[]⟩, vv (0 : Int)]).cells (G - (n + 1))).toList := ⟨_, rfl⟩
  have hGn : n + 1 ≤ G := by rw [hG]; exact grownCap_ge w _ _ _
  have hGm : G ≤ maxLen := by rw [hG]; exact grownCap_le_maxLen w _ _ _ (by unfold maxLen; omega)
  have hZl : Z.length = (n + 1 - i) * 2 + (G - (n + 1)) * 2 := by rw [hZ, List.length_append, Array.length_toList, Array.length_toList, size_zeroCells, size_zeroCells]; rfl
  obtain ⟨W1, hW1⟩ : ∃ W1, W1 = w.drew.alloc (.cells (ys.take (i * 2) ++ Z).toArray 89) := ⟨_, rfl⟩
  have hkk : (n : Int) + 1 - (i : Int) = ((n + 1 - i : Nat) : Int) := by omega
  have hrz : ∀ ty, (Builtin.append_ #[90, 3] ty #[.slice (some ⟨g, 0, none⟩) i n, .int .i64 ((n : Int) + 1 - (i : Int))]).run Try.prog w = .ok (.slice (some ⟨w.heap.size, 0, none⟩) (n + 1) G) W1 := fun ty => by
    have h := Lib.run_append_grow_zeros (P := Try.prog) w 90 3 ty 89 i0 _ .i64 .i64 Try.underlying90 Try.underlying3 hi0 hz0 (some ⟨g, 0, none⟩) i n (ys.take (i * 2)) hold (n + 1 - i) (by omega) (by omega) (by omega) (by omega) (by rw [hz2]; omega) (by rw [hz2, show i + (n + 1 - i) = n + 1 by omega]; exact growslice_fits (by omega) (by omega))
    rw [show i + (n + 1 - i) = n + 1 by omega] at h
    rw [hkk, h, hW1, ← hG]
    have hrow : (ys.take (i * 2)).toArray ++ Builtin.zeroCells (Value.agg #[.string ⟨#[]⟩, vv (0 : Int)]).cells (n + 1 - i) ++ Builtin.zeroCells (Value.agg #[.string ⟨#[]⟩, vv (0 : Int)]).cells (G - (n + 1)) = (ys.take (i * 2) ++ Z).toArray := by
      apply Array.toList_inj.1
      rw [hZ]
      simp only [Array.toList_append, List.append_assoc]
    rw [hrow]
  have hnb : W1.heap[w.heap.size]? = some (.cells (ys.take (i * 2) ++ Z).toArray 89 (0, 0)) := by rw [hW1]; exact heap_alloc_new w.drew _
  have t0 : Turn (fun _ => False) w W1 := by rw [hW1]; exact (Turn.refl _ w).drew.alloc _
  have hv1 := t0.obj hv (fun h => h)
  have hg1 := t0.obj hblk (fun h => h)
  have hrl : (ys.take (i * 2) ++ Z).length = G * 2 := by rw [List.length_append, hZl, List.length_take]; omega
  obtain ⟨b1, t1⟩ := setCells_block w.heap.size 89 [a, b] (i * 2) W1 _ hnb (by simp only [List.size_toArray, List.length_cons, List.length_nil]; rw [hrl]; omega)
  obtain ⟨W2, hW2⟩ : ∃ W2, W2 = W1.setCells w.heap.size (i * 2) [a, b] := ⟨_, rfl⟩
  rw [← hW2] at b1 t1
  have hl1 : (over (ys.take (i * 2) ++ Z) (i * 2) [a, b]).length = G * 2 := by rw [over_length _ _ _ (by simp only [List.length_cons, List.length_nil]; rw [hrl]; omega)]; exact hrl
  have hg2 : W2.drew.heap[g]? = some (.cells cur 89 (0, 0)) := t1.obj hg1 (by omega)
  have b1d : W2.drew.heap[w.heap.size]? = some (.cells (over (ys.take (i * 2) ++ Z) (i * 2) [a, b]).toArray 89 (0, 0)) := b1
  have htll : (ys.drop (i * 2)).length = (n - i) * 2 := by rw [List.length_drop, hyl]; omega
  obtain ⟨tl, htl⟩ : ∃ tl, tl = ys.drop (i * 2) := ⟨_, rfl⟩
  rw [← htl] at htll
  obtain ⟨b2, t2⟩ := setCells_block w.heap.size 89 tl ((i + 1) * 2) W2.drew _ b1d (by simp only [List.size_toArray]; rw [htll, hl1]; omega)
  obtain ⟨W3, hW3⟩ : ∃ W3, W3 = W2.drew.setCells w.heap.size ((i + 1) * 2) tl := ⟨_, rfl⟩
  rw [← hW3] at b2 t2
  have hcp2 : ∀ ty dc, (Builtin.copy_ #[90, 90] ty #[.slice (some ⟨w.heap.size, i * 2, none⟩) (n + 1 - i) dc, .slice (some ⟨vb, 0, none⟩) 1 1]).run Try.prog W1 = .ok (goInt 1) W2 := fun ty dc => by
    have hmin : Nat.min 1 (n + 1 - i) = 1 := by simp only [Nat.min_def]; split <;> omega
    have := run_copy_k (P := Try.prog) W1 90 90 ty 89 2 w.heap.size (i * 2) (n + 1 - i) dc ⟨vb, 0, none⟩ 1 1 [a, b] Try.underlying90 hsz (by rw [hmin]; rfl)
      (fun j u hj => by
        rw [add_mk, (blk_cell hv1 _).1, ← hj]
        match j with
        | 0 => rfl
        | 1 => rfl
        | j + 2 => simp)
      (fun j hj => by
        rw [(blk_cell hnb _).1, Array.getElem?_eq_getElem (by simp only [List.size_toArray]; rw [hrl]; simp at hj; omega)]
        rfl)
      (fun j _ => (blk_cell hnb _).2) (fun u hu => by simp at hu; rcases hu with rfl | rfl <;> assumption)
    rw [hmin, ← hW2] at this
    exact this
  have hcp3 : ∀ ty dc sc, (Builtin.copy_ #[90, 90] ty #[.slice (some ⟨w.heap.size, (i + 1) * 2, none⟩) (n - i) dc, .slice (some ⟨g, i * 2, none⟩) (n - i) sc]).run Try.prog W2.drew = .ok (goInt ((n - i : Nat) : Int)) W3 := fun ty dc sc => by
    have hmin : Nat.min (n - i) (n - i) = n - i := by simp only [Nat.min_def]; split <;> omega
    have := run_copy_k (P := Try.prog) W2.drew 90 90 ty 89 2 w.heap.size ((i + 1) * 2) (n - i) dc ⟨g, i * 2, none⟩ (n - i) sc tl Try.underlying90 hsz (by rw [htll, hmin])
      (fun j u hj => by
        rw [add_mk, (blk_cell hg2 _).1, ← hj, htl, List.getElem?_drop, ← htk, List.getElem?_take, Array.getElem?_toList]
        have : i * 2 + j < n * 2 := by
          have := (List.getElem?_eq_some_iff.1 hj).1
          rw [htll] at this
          omega
        rw [if_pos this])
      (fun j hj => by
        rw [(blk_cell b1d _).1, Array.getElem?_eq_getElem (by simp only [List.size_toArray]; rw [hl1]; rw [htll] at hj; omega)]
        rfl)
      (fun j _ => (blk_cell b1d _).2) (fun u hu => h1c u (by rw [htl] at hu; exact List.mem_of_mem_drop hu))
    rw [hmin, ← hW3] at this
    exact this
  have fin : InsTo base (.slice (some ⟨g, 0, none⟩) n n) n i ys a b w (.slice (some ⟨w.heap.size, 0, none⟩) (n + 1) G) W3 := by
    refine ⟨⟨?_, .inr ⟨w.heap.size, G, _, rfl, hbase, b2, hGn, hGm, ?_, ?_⟩⟩, ?_, fun k h => ?_⟩
    · simp [hyl]; omega
    · simp only [List.size_toArray]
      rw [over_length _ _ _ (by rw [htll, hl1]; omega)]
      exact hl1
    · simp only
      rw [htl]
      exact grow_list Z ys n i [a, b] rfl hyl (by omega) hi
    · have t3 : Turn (· = w.heap.size) W1 W3 := Turn.trans ⟨t1.os, t1.tape, t1.output, t1.size, t1.block⟩ ⟨t2.os, t2.tape, t2.output, t2.size, t2.block⟩
      exact (t0.step t3 (fun k hk e => by omega)).mono (fun _ _ h => h.elim)
    · have : w.heap.size = k := Option.some.inj h
      exact .inr (by omega)
  have FIN := hide fin
  have hii : ¬ ((i : Int) = (n : Int)) := by omega
  have hw1 : IntKind.i64.wrap ((i : Int) + 1) = (i : Int) + 1 := by rw [IntKind.wrap_i64]; omega
  have hb1' : (0 : Int) ≤ (i : Int) + 1 := by omega
  have htn : ((i : Int) + 1).toNat = i + 1 := by omega
  have hb2 : ¬ (G = i + 1) := by omega
  have hb4 : ¬ (n = i) := by omega
  have hb5 : ¬ (G = i) := by omega
  have hG63 : G ≤ 9223372036854775807 := by unfold maxLen at hGm; omega
  have hin : i ≤ n := by omega
  clear hW1 hW2 hW3 b1 b2 b1d t0 t1 t2 hv1 hg1 hg2 hnb fin htl htll hl1 hblk htk hcs hyl h1c hv hold hG hZ hZl hrl hkk
  go_enter Try.func57, Try.ntmps57
  go_wp2_with (first
    | (at_builtin; refine Lib.wpList_append_run _ rfl _ _ _ _ rfl _ _ rfl rfl _ _ (hrz _) ?_)
    | (at_builtin; refine wpList_copy_run _ rfl _ _ 90 90 rfl _ _ rfl rfl (hcp2 _ _) ?_))
  go_region_law (refine step_copy_run rfl _ _ 90 90 rfl _ _ (by simp [Act.eval, Act.put]) (by simp [Act.eval, Act.put]) (hcp3 _ _ _) ?_)
  go_wp2
  go_ret
  exact ⟨_, rfl, FIN.out⟩
/-- Wherever. -/
theorem ins_any (base : Nat) (v : Value) (n i : Nat) (ys : List Value) (vb : Nat) (a b : Value) (w : World) (h : w.ownsRow base 89 2 v n ys) (h1c : ∀ u ∈ ys, u.oneCell' = true) (ha : a.oneCell' = true) (hb1 : b.oneCell' = true) (hi : i ≤ n) (hn : n ≤ 100000)
    (hv : w.heap[vb]? = some (.cells #[a, b] 89 (0, 0))) (hne : v.ownBlock ≠ some vb) (hbase : base ≤ w.heap.size) :
    Calls Try.prog 57 #[v, .int .i64 i, .slice (some ⟨vb, 0, none⟩) 1 1] w (InsPost base v n i ys a b w) := by
  rcases Nat.eq_or_lt_of_le hi with rfl | hlt
  · exact ins_end base v i ys vb a b w h ha hb1 hn hv hbase
  · rcases h.2 with ⟨hx, h0⟩ | ⟨g, cap, cur, hx, _, _, hnc, _⟩
    · omega
    · subst hx
      by_cases hroom : n + 1 ≤ cap
      · exact ins_room base g n cap i ys vb a b w h h1c ha hb1 hlt hroom hv (fun e => hne (by rw [e]; rfl))
      · obtain rfl : cap = n := by omega
        exact ins_grow base g cap i ys vb a b w h h1c ha hb1 hlt hn hv hbase
end Go.Proofs.Ytcaeechlpadboaa.MI
