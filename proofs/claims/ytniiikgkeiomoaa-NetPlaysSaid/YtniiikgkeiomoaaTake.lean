/-
  take, Come, Lose.
-/
import Derived.Test.YtniiikgkeiomoaaDel
namespace Go.Proofs.Ytniiikgkeiomoaa
open Go.RowKit Go.Maps

theorem flat_take (l : List Pk) (k : Nat) : (l.take k).flatMap pkCells = (l.flatMap pkCells).take (k * 3) := by
  induction l generalizing k with
  | nil => simp
  | cons x l ih =>
    cases k with
    | zero => simp
    | succ k =>
      rw [show (k + 1) * 3 = k * 3 + 1 + 1 + 1 by omega]
      simp [pkCells, ih]
theorem flat_drop (l : List Pk) (k : Nat) : (l.drop k).flatMap pkCells = (l.flatMap pkCells).drop (k * 3) := by
  induction l generalizing k with
  | nil => simp
  | cons x l ih =>
    cases k with
    | zero => simp
    | succ k =>
      rw [show (k + 1) * 3 = k * 3 + 1 + 1 + 1 by omega]
      simp [pkCells, ih]
theorem flat_erase (l : List Pk) (k : Nat) : (l.eraseIdx k).flatMap pkCells = (l.flatMap pkCells).take (k * 3) ++ (l.flatMap pkCells).drop ((k + 1) * 3) := by
  rw [List.eraseIdx_eq_take_drop_succ, List.flatMap_append, flat_take, flat_drop]
theorem pks_oneCell (l : List Pk) : ∀ u ∈ l.flatMap pkCells, u.oneCell' = true := by
  intro u hu
  obtain ⟨p, _, h⟩ := List.mem_flatMap.1 hu
  exact pk_oneCell p u h
theorem pk_at (l : List Pk) (k : Nat) (h : k < l.length) : (l.flatMap pkCells)[k * 3]? = some (.int .i64 l[k].from_) ∧ (l.flatMap pkCells)[k * 3 + 1]? = some (.int .i64 l[k].to_) ∧ (l.flatMap pkCells)[k * 3 + 2]? = some (.string l[k].data) :=
  ⟨flat_at pkCells_len l k 0 h (by omega), flat_at pkCells_len l k 1 h (by omega), flat_at pkCells_len l k 2 h (by omega)⟩

theorem own_cap {w : World} {base : Nat} {e : TypeId} {size n m c : Nat} {A : Option Addr} {xs : List Value} (h : w.ownsRow base e size (.slice A m c) n xs) : n ≤ c ∧ c ≤ maxLen := by
  rcases h.2 with ⟨h1, h2⟩ | ⟨g, cap, cur, hv, _, _, hn, hm, _⟩
  · injection h1 with _ _ h3; unfold maxLen; omega
  · injection hv with _ _ h3; rw [h3]; exact ⟨hn, hm⟩
theorem cell3 {w : World} {b : Nat} {v0 v1 v2 : Value} {t : TypeId} (h : w.heap[b]? = some (.cells #[v0, v1, v2] t (0, 0))) : w.cell? ⟨b, 0, none⟩ = some v0 ∧ w.cell? ⟨b, 1, none⟩ = some v1 ∧ w.cell? ⟨b, 2, none⟩ = some v2 ∧ w.frozen? ⟨b, 0, none⟩ = false ∧ w.frozen? ⟨b, 1, none⟩ = false ∧ w.frozen? ⟨b, 2, none⟩ = false := by
  simp [World.cell?, World.frozen?, h]

theorem set3 {w : World} {b : Nat} {a0 a1 a2 u0 u1 u2 : Value} {t : TypeId} (h : w.heap[b]? = some (.cells #[a0, a1, a2] t (0, 0))) :
    (((w.setCell ⟨b, 0, none⟩ u0).setCell ⟨b, 1, none⟩ u1).setCell ⟨b, 2, none⟩ u2).heap[b]? = some (.cells #[u0, u1, u2] t (0, 0)) := by
  simp [World.setCell, Array.getElem?_modify, h]
theorem turn3 (w : World) (b : Nat) (u0 u1 u2 : Value) : Turn (· = b) w (((w.setCell ⟨b, 0, none⟩ u0).setCell ⟨b, 1, none⟩ u1).setCell ⟨b, 2, none⟩ u2) :=
  (((Turn.refl (· = b) w).setCell (p := ⟨b, 0, none⟩) (fun _ => rfl) u0).setCell (p := ⟨b, 1, none⟩) (fun _ => rfl) u1).setCell (p := ⟨b, 2, none⟩) (fun _ => rfl) u2
/-- Behind the store of the row, and stores into a box beside it. -/
theorem net_stored2 {w w2 w5 : World} {base nb m g cap n R : Nat} {v0 : Value} {ps : List Pk} {C : Cuts} (t : Turn (NetB w nb) w w2) (h1 : w2.heap[nb]? = some (.cells #[v0, .map (some m)] 50 (0, 0))) (hm : CutMap w2 m C) (hbm : base ≤ m) (hbn : base ≤ nb)
    (own : w2.ownsRow base 25 3 (.slice (some ⟨g, 0, none⟩) n cap) ps.length (ps.flatMap pkCells)) (hok : ∀ p ∈ ps, p.ok) (t5 : Turn (· = R) (w2.setCell ⟨nb, 0, none⟩ (.slice (some ⟨g, 0, none⟩) n cap)) w5) (hR : w.heap.size ≤ R) (r1 : R ≠ nb) (r2 : R ≠ m) (r3 : R ≠ g) (hg : NetB w nb g ∨ w.heap.size ≤ g) (hw : w.cell? ⟨nb, 1, none⟩ = some (.map (some m))) : NetDo w base nb ps C w5 := by
  have ts : Turn (· = nb) w2 (w2.setCell ⟨nb, 0, none⟩ (.slice (some ⟨g, 0, none⟩) n cap)) := (Turn.refl (· = nb) w2).setCell (p := ⟨nb, 0, none⟩) (fun _ => rfl) _
  have hm4 : CutMap (w2.setCell ⟨nb, 0, none⟩ (.slice (some ⟨g, 0, none⟩) n cap)) m C := hm.turn ts (fun e => by
    obtain ⟨es, cl, h2⟩ := hm.isMap
    rw [e, h1] at h2
    cases h2)
  have o4 := ownsRow_turn own ts (fun k hk e => ownsRow_other own h1 (fun _ _ e => by cases e) (e ▸ hk))
  refine ⟨⟨⟨_, m, t5.obj (set0 h1) (fun e => r1 e.symm), ownsRow_turn o4 t5 (fun k hk e => r3 (by have := Option.some.inj hk; simp only at this; omega)), hm4.turn t5 (fun e => r2 e.symm), hbm, hbn⟩, hok⟩, (t.trans (ts.mono fun k _ e => .inl e)).step t5 (fun k hk e => by omega), (cell2 (t5.obj (set0 h1) (fun e => r1 e.symm))).2.1.trans hw.symm, rows_of (t5.obj (set0 h1) (fun e => r1 e.symm)) hg⟩

abbrev zeroPk : Value := .agg #[.int .i64 0, .int .i64 0, .string ⟨#[]⟩]
/-- What take answers of a packet that is there. -/
def TakePost (w : World) (base nb : Nat) (ps : List Pk) (C : Cuts) (k : Nat) (p : Pk) (e : Ending) (w' : World) : Prop :=
  e = .returned (.tuple #[p.v, .bool true]) ∧ NetDo w base nb (ps.eraseIdx k) C w'

set_option maxRecDepth 100000 in
set_option maxHeartbeats 2000000 in
theorem take_ok (base nb : Nat) (ps : List Pk) (C : Cuts) (i : Int) (w : World) (h : IsNet w base nb ps C) (hp : 0 < ps.length) (hm : ps.length ≤ 1000000) (k : Nat) (hk : k = at_ i ps.length) (hkl : k < ps.length) :
    Calls Try.prog 25 #[.pointer (some ⟨nb, 0, none⟩), .int .i64 i] w (TakePost w base nb ps C k ps[k]) := by
  have hb := h.lt
  have hbase := h.base_le
  have H := hide h
  have HK := hide hk
  obtain ⟨W, hW⟩ : ∃ W, W = w.alloc (.cells #[.int .i64 0, .int .i64 0, .string ⟨#[]⟩] 25) := ⟨_, rfl⟩
  have tW : Turn (fun _ => False) w W := by rw [hW]; exact (Turn.refl _ w).alloc _
  have HNW := hide (h.turn0 tW)
  have HW := hide hW
  have hszW : W.heap.size = w.heap.size + 1 := by rw [hW]; simp
  have z0 : W.heap[w.heap.size]? = some (.cells #[.int .i64 0, .int .i64 0, .string ⟨#[]⟩] 25 (0, 0)) := by rw [hW]; exact heap_alloc_new w _
  obtain ⟨⟨v, m, h1, h2, h3, h4, h5⟩, hok⟩ := h
  obtain ⟨g, cap, rfl, hbg, hgl⟩ := h2.form hp
  have hcap := own_cap h2
  have hcm := hcap.2
  unfold maxLen at hcm
  obtain ⟨p0, p1, p2⟩ := pk_at ps k hkl
  have hcl := Rd.of_own h2
  obtain ⟨b', o', hA, hlt', hcell⟩ := hcl.cells hp
  injection hA with hA
  injection hA with hA1 hA2
  subst hA1 hA2
  have q0 := hcell _ _ p0
  have q1 := hcell _ _ p1
  have q2 := hcell _ _ p2
  rw [Nat.zero_add] at q0 q1 q2
  obtain ⟨P, hP⟩ : ∃ P, P = ps[k] := ⟨_, rfl⟩
  rw [← hP] at q0 q1 q2 ⊢
  -- the world with the packet's own box
  obtain ⟨V, hV⟩ : ∃ V, V = W.alloc (.cells #[.int .i64 P.from_, .int .i64 P.to_, .string P.data] 25) := ⟨_, rfl⟩
  have tV : Turn (fun _ => False) w V := by rw [hV]; exact tW.alloc _
  have hszV : V.heap.size = w.heap.size + 2 := by rw [hV]; simp [hszW]
  have g1W := tW.obj h1 (fun h => h)
  have c0 := (cell2 g1W).1
  have r0 := (tW.cell (p := ⟨g, k * 3, none⟩) hgl (fun h => h)).trans q0
  have r1 := (tW.cell (p := ⟨g, k * 3 + 1, none⟩) hgl (fun h => h)).trans q1
  have r2 := (tW.cell (p := ⟨g, k * 3 + 2, none⟩) hgl (fun h => h)).trans q2
  have oV := ownsRow_turn h2 tV (fun _ _ h => h)
  have g1V := tV.obj h1 (fun h => h)
  have d0 := (cell2 g1V).1
  have zV : V.heap[w.heap.size]? = some (.cells #[.int .i64 0, .int .i64 0, .string ⟨#[]⟩] 25 (0, 0)) := by rw [hV, Below.heap_alloc _ _ _ (by omega)]; exact z0
  have yV : V.heap[w.heap.size + 1]? = some (.cells #[.int .i64 P.from_, .int .i64 P.to_, .string P.data] 25 (0, 0)) := by rw [hV, ← hszW]; exact heap_alloc_new W _
  have mV := h3.turn tV (fun h => h)
  have H1 := hide h1
  have HV := hide hV
  have HOK := hide hok
  have hone := pks_oneCell ps
  have HONE := hide hone
  have hki : (k : Int) < (ps.length : Int) := by omega
  clear hone hk hW hV h1 h2 h3 hok p0 p1 p2 hcl hcell q0 q1 q2 hP
  go_enter Try.func25, Try.ntmps25
  go_wp2_with fail
  rw [← HW.out]
  refine (place_ok base nb ps C i W HNW.out hp hm).mono ?_
  rintro e w' ⟨rfl, rfl⟩
  rw [← HK.out]
  go_wp2_with fail
  rw [← HV.out]
  refine (del_ok base g ps.length cap k _ V oV HONE.out hkl).mono ?_
  rintro e w3 ⟨rfl, hd⟩
  have ht := hd.turn
  have g3 := ht.obj g1V (fun e => ownsRow_other oV g1V (fun _ _ e => by cases e) (by rw [e]; rfl))
  have z3 := ht.obj zV (fun e => by omega)
  have y3 := ht.obj yV (fun e => by omega)
  have m3 := mV.turn ht (fun e => by
    obtain ⟨es, cl, h2⟩ := mV.isMap
    exact ownsRow_other oV h2 (fun _ _ e => by cases e) (by rw [e]; rfl))
  have hml := mV.lt
  have o3 := hd.own
  rw [← flat_erase] at o3
  have hel : (ps.eraseIdx k).length = ps.length - 1 := List.length_eraseIdx_of_lt hkl
  have c3 := (cell2 g3).1
  have c3f := (cell2 g3).2.2
  obtain ⟨X, hX⟩ : ∃ X, X = w3.setCell ⟨nb, 0, none⟩ (.slice (some ⟨g, 0, none⟩) (ps.length - 1) cap) := ⟨_, rfl⟩
  have zX : X.heap[w.heap.size]? = some (.cells #[.int .i64 0, .int .i64 0, .string ⟨#[]⟩] 25 (0, 0)) := by rw [hX, Below.heap_setCell w3 ⟨nb, 0, none⟩ _ _ (show w.heap.size ≠ nb by omega)]; exact z3
  have yX : X.heap[w.heap.size + 1]? = some (.cells #[.int .i64 P.from_, .int .i64 P.to_, .string P.data] 25 (0, 0)) := by rw [hX, Below.heap_setCell w3 ⟨nb, 0, none⟩ _ _ (show w.heap.size + 1 ≠ nb by omega)]; exact y3
  obtain ⟨y0, y1, y2, _⟩ := cell3 yX
  obtain ⟨x0, x1, x2, x3, x4, x5⟩ := cell3 zX
  have ZX := hide zX
  have HX := hide hX
  rw [hX] at y0 y1 y2 x0 x1 x2 x3 x4 x5
  have G3 := hide g3
  have HD := hide hd
  have HEL := hide hel
  clear hX zX yX z3 y3 g3 ht hd hel c0 r0 r1 r2 d0 zV yV z0
  go_wp2_with fail
  clear y0 y1 y2 x0 x1 x2 x3 x4 x5 c3 c3f
  have hfin : NetDo w base nb (ps.eraseIdx k) C (((X.setCell ⟨w.heap.size, 0, none⟩ (.int .i64 P.from_)).setCell ⟨w.heap.size, 1, none⟩ (.int .i64 P.to_)).setCell ⟨w.heap.size, 2, none⟩ (.string P.data)) := by
    have hn := HEL.out
    refine net_stored2 (w := w) (w2 := w3) (g := g) (cap := cap) (n := ps.length - 1) (R := w.heap.size) ?_ G3.out m3 h4 h5 (by rw [hn]; exact o3) (fun q hq => HOK.out q (List.mem_of_mem_eraseIdx hq)) (by rw [← HX.out]; exact turn3 _ _ _ _ _) (Nat.le_refl _) (by omega) ?_ (by omega) (.inl (.inr ⟨_, _, H1.out, rfl⟩)) (cell2 H1.out).2.1
    · exact (tV.mono fun _ _ h => h.elim).trans (HD.out.turn.mono fun _ _ e => .inr ⟨_, _, H1.out, by rw [e]; rfl⟩)
    · rintro e
      obtain ⟨es, cl, h2⟩ := mV.isMap
      have hz := (mV.turn HD.out.turn (fun e => by
        obtain ⟨es, cl, h2⟩ := mV.isMap
        exact ownsRow_other oV h2 (fun _ _ e => by cases e) (by rw [e]; rfl))).isMap
      obtain ⟨es', cl', h3⟩ := hz
      have hX3 : X.heap[w.heap.size]? = w3.heap[w.heap.size]? := by rw [HX.out, Below.heap_setCell w3 ⟨nb, 0, none⟩ _ _ (show w.heap.size ≠ nb by omega)]
      rw [← e] at h3
      rw [← hX3, ZX.out] at h3
      cases h3
  rw [← HX.out]
  have hY := set3 (u0 := .int .i64 P.from_) (u1 := .int .i64 P.to_) (u2 := .string P.data) ZX.out
  generalize ((X.setCell ⟨w.heap.size, 0, none⟩ (.int .i64 P.from_)).setCell ⟨w.heap.size, 1, none⟩ (.int .i64 P.to_)).setCell ⟨w.heap.size, 2, none⟩ (.string P.data) = Y at *
  obtain ⟨y0, y1, y2, _⟩ := cell3 hY
  exact bodyPost_ret (v := .tuple #[P.v, .bool true]) (by simp [results, Try.results25, go_sem, y0, y1, y2]) rfl ⟨rfl, hfin⟩
end Go.Proofs.Ytniiikgkeiomoaa
