/-
  The document's net: without, Send, Lose, Dup.
-/
import Derived.Test.YtniiikgkeiomoaaDoc
namespace Go.Proofs.Ytniiikgkeiomoaa
open Go.RowKit Go.Maps

/-- The packets' row is another one now. -/
theorem doc_row {base : Nat} {w0 w w2 : World} {ts : List Thing} {dn : Nat} {v1 v2 v1' : Value} {ps ps' : List Pk} {ws : List (Int × Int)} (h : Lie base w0 w (docT base dn v1 v2 ps ws ts)) (t : Turn (fun k => v1.ownBlock = some k) w w2)
    (own : w2.ownsRow base 25 3 v1' ps'.length (ps'.flatMap pkCells)) (hn : ∀ g, v1'.ownBlock = some g → v1.ownBlock = some g ∨ w.heap.size ≤ g) :
    Lie base w0 (w2.setCell ⟨dn, 0, none⟩ v1') (docT base dn v1' v2 ps' ws ts) := by
  have s := h.step 1 rfl (t' := row base 25 3 v1' ps'.length (ps'.flatMap pkCells)) t own (fun g hg => hn g hg)
  exact s.setBox 0 rfl 0 v1'

set_option maxRecDepth 100000 in
set_option maxHeartbeats 2000000 in
theorem dwithout {base : Nat} {w0 w : World} {ts : List Thing} {dn : Nat} {v1 v2 : Value} {ps : List Pk} {ws : List (Int × Int)} (h : Lie base w0 w (docT base dn v1 v2 ps ws ts)) (j : Nat) (hj : j < ps.length) (hm : ps.length ≤ 1000000) :
    Calls Try.prog 35 #[.pointer (some ⟨dn, 0, none⟩), .int .i64 j] w (DocTells (.tuple #[]) base w0 dn (ps.eraseIdx j) ws ts) := by
  obtain ⟨i0, hinf, hz0, hz1, hz2⟩ := info_parts info25
  have h1 : w.heap[dn]? = some (.cells #[v1, v2] 61 (0, 0)) := h.get 0 rfl
  have own : w.ownsRow base 25 3 v1 ps.length (ps.flatMap pkCells) := h.get 1 rfl
  obtain ⟨g, cap, rfl, hbg, hgl⟩ := own.form (by omega)
  have hbase := h.base_le
  have RH := rd_head own j (by omega)
  obtain ⟨A2, hA2, RT, hA2b⟩ := rd_tail own j hj
  have hcap := own_cap own
  have hcm := hcap.2
  unfold maxLen at hcm
  have hic : (j : Int) + 1 ≤ (ps.length : Int) := by omega
  have hjc : j ≤ cap := by omega
  have hjc1 : j + 1 ≤ cap := by omega
  have c0 := (cell2 h1).1
  have H := hide h
  have H1 := hide h1
  have RHH := hide RH
  have RTT := hide RT
  have b1 : 0 + j ≤ 1000000 := by omega
  have b2 : 0 + j + (ps.length - (j + 1)) ≤ 1000000 := by omega
  have b4 : (32 : Nat) ≤ 1000 := by omega
  have X1 := hide (fun u (hu : u ∈ (ps.flatMap pkCells).take (j * 3)) => pks_oneCell ps u (List.mem_of_mem_take hu))
  have X2 := hide (fun u (hu : u ∈ (ps.flatMap pkCells).drop ((j + 1) * 3)) => pks_oneCell ps u (List.mem_of_mem_drop hu))
  have g1 : (j : Int) + 1 ≤ 9223372036854775807 := by omega
  clear h h1 own RH RT
  go_enter Try.func35, Try.ntmps35
  go_wp2_with (first
    | (at_builtin; refine wpList_appendRd rfl (.tmp 5) (.tmp 11) 22 rfl base 25 i0 _ 3 32 Try.underlying22 hinf hz0 hz1 hz2 rfl (by decide) (.slice none 0 0) 0 [] (by simp [Act.eval]) (World.ownsRow_nil _ _ _ _) (.slice (some ⟨g, 0, none⟩) j cap) j ((ps.flatMap pkCells).take (j * 3)) (by simp [Act.eval]) RHH.out X1.out b1 b4 hbase ?_; intro v8 w8 own8 t8 new8; obtain ⟨A8, d8, rfl⟩ := (Rd.of_own own8).shape; have T8 := hide (show Turn (fun _ => False) w w8 from t8.mono (fun k _ hk => by cases hk)); have RT8 := hide (RTT.out.turn T8.out (fun _ _ _ h => h)); have c8 := (T8.out.cell (p := ⟨dn, 0, none⟩) (box_lt H1.out) (fun h => h)).trans c0; have hb8 := Nat.le_trans hbase T8.out.size; have q8 := hide (show ∀ g', (Value.slice A8 (0 + j) d8).ownBlock = some g' → w.heap.size ≤ g' from fun g' h => (new8 g' h).elim (fun h => by cases h) id))
    | (at_builtin; refine wpList_appendRd rfl (.tmp 14) (.tmp 21) 22 rfl base 25 i0 _ 3 32 Try.underlying22 hinf hz0 hz1 hz2 rfl (by decide) (.slice A8 (0 + j) d8) (0 + j) ([] ++ (ps.flatMap pkCells).take (j * 3)) (by simp [Act.eval]) own8 (.slice (some A2) (ps.length - (j + 1)) (cap - (j + 1))) (ps.length - (j + 1)) ((ps.flatMap pkCells).drop ((j + 1) * 3)) (by simp [Act.eval]) RT8.out X2.out b2 b4 hb8 ?_; intro v9 w9 own9 t9 new9; obtain ⟨A9, d9, rfl⟩ := (Rd.of_own own9).shape; have q9 := hide (show ∀ g', (Value.slice A9 (0 + j + (ps.length - (j + 1))) d9).ownBlock = some g' → w.heap.size ≤ g' from fun g' h => (new9 g' h).elim (fun h => q8.out g' h) (fun h => Nat.le_trans T8.out.size h)); have T9 := hide (show Turn (fun _ => False) w w9 from T8.out.step t9 (fun k hk h1 => Nat.lt_irrefl _ (Nat.lt_of_lt_of_le hk (q8.out k h1)))); have h9 := T9.out.obj H1.out (fun h => h); have c9 := (cell2 h9).1; have f9 := (cell2 h9).2.2; clear h9))
  have hel : (ps.eraseIdx j).length = ps.length - 1 := List.length_eraseIdx_of_lt hj
  have hel2 : 0 + j + (ps.length - (j + 1)) = (ps.eraseIdx j).length := by omega
  have hfl : [] ++ (ps.flatMap pkCells).take (j * 3) ++ (ps.flatMap pkCells).drop ((j + 1) * 3) = (ps.eraseIdx j).flatMap pkCells := by rw [flat_erase]; simp
  rw [hel2, hfl] at own9
  have q9' := q9.out
  rw [hel2] at q9'
  have fin := doc_row H.out (T9.out.mono fun _ _ h => h.elim) own9 (fun g' h => .inr (q9' g' h))
  have hel3 : j + (ps.length - (j + 1)) = (ps.eraseIdx j).length := by omega
  rw [← hel3] at fin
  first | refine bodyPost_ret (results_none rfl _ _ _) rfl ?_ | go_end0
  exact ⟨rfl, _, _, fin⟩

theorem dsend_no {base : Nat} {w0 w : World} {ts : List Thing} {dn : Nat} {v1 v2 : Value} {ps : List Pk} {ws : List (Int × Int)} (h : Lie base w0 w (docT base dn v1 v2 ps ws ts)) (p : Pk) (hno : 8192 < p.data.size ∨ 1024 ≤ ps.length) :
    Calls Try.prog 30 #[.pointer (some ⟨dn, 0, none⟩), p.v] w (DocTells (.bool false) base w0 dn ps ws ts) := by
  have h1 : w.heap[dn]? = some (.cells #[v1, v2] 61 (0, 0)) := h.get 0 rfl
  obtain ⟨A, c, rfl⟩ := (Rd.of_own (h.get 1 rfl)).shape
  have H := hide h
  by_cases hd : 8192 < p.data.size
  · have hd' : (8192 : Int) < p.data.size := by omega
    clear h h1 hno
    go_enter Try.func30, Try.ntmps30
    go_wp2
    go_ret
    exact ⟨rfl, _, _, H.out.skip _⟩
  · have hd' : ¬ (8192 : Int) < p.data.size := by omega
    have hl : (1024 : Int) ≤ ps.length := by omega
    have c0 := (World.cell?_alloc_lt w (.cells #[.int .i64 p.from_, .int .i64 p.to_, .string p.data] 25) _ (box_lt h1)).trans (cell2 h1).1
    clear h h1 hno
    go_enter Try.func30, Try.ntmps30
    go_wp2
    go_ret
    exact ⟨rfl, _, _, H.out.skip _⟩

def dsendTo (ws : List (Int × Int)) (ps : List Pk) (p : Pk) : List Pk := if isCut ws p.from_ p.to_ = true then ps else ps ++ [p]
set_option maxRecDepth 100000 in
set_option maxHeartbeats 2000000 in
theorem dsend_ok {base : Nat} {w0 w : World} {ts : List Thing} {dn : Nat} {v1 v2 : Value} {ps : List Pk} {ws : List (Int × Int)} (h : Lie base w0 w (docT base dn v1 v2 ps ws ts)) (p : Pk) (hd : p.data.size ≤ 8192) (hl : ps.length < 1024) (hm : ws.length ≤ 1000000) :
    Calls Try.prog 30 #[.pointer (some ⟨dn, 0, none⟩), p.v] w (DocTells (.bool true) base w0 dn (dsendTo ws ps p) ws ts) := by
  obtain ⟨i0, hinf, hz0, hz1, hz2⟩ := info_parts info25
  have h1 : w.heap[dn]? = some (.cells #[v1, v2] 61 (0, 0)) := h.get 0 rfl
  obtain ⟨A, c, rfl⟩ := (Rd.of_own (h.get 1 rfl)).shape
  have hd' : ¬ (8192 : Int) < p.data.size := by omega
  have hl' : ¬ (1024 : Int) ≤ ps.length := by omega
  have c0 := (World.cell?_alloc_lt w (.cells #[.int .i64 p.from_, .int .i64 p.to_, .string p.data] 25) _ (box_lt h1)).trans (cell2 h1).1
  have hs : Lie base w0 (w.alloc (.cells #[.int .i64 p.from_, .int .i64 p.to_, .string p.data] 25)) (docT base dn (.slice A ps.length c) v2 ps ws (pbox w.heap.size p :: ts)) :=
    (h.alloc (.cells #[.int .i64 p.from_, .int .i64 p.to_, .string p.data] 25)).pick (fun i => if i = 0 then 1 else if i = 1 then 2 else if i = 2 then 3 else if i = 3 then 0 else i) (fun i j _ _ e => by
      by_cases a0 : i = 0 <;> by_cases a1 : i = 1 <;> by_cases a2 : i = 2 <;> by_cases a3 : i = 3 <;> by_cases b0 : j = 0 <;> by_cases b1 : j = 1 <;> by_cases b2 : j = 2 <;> by_cases b3 : j = 3 <;> simp [a0, a1, a2, a3, b0, b1, b2, b3] at e <;> omega) (fun i u hu => by
      match i with
      | 0 => exact hu
      | 1 => exact hu
      | 2 => exact hu
      | 3 => exact hu
      | i + 4 => simpa using hu)
  have HS := hide hs
  clear h h1 hs
  go_enter Try.func30, Try.ntmps30
  go_wp2_with fail
  refine (dis HS.out p.from_ p.to_ hm).mono ?_
  rintro e w2 ⟨rfl, v1', v2', s2⟩
  by_cases hc : isCut ws p.from_ p.to_ = true
  · have e1 : dsendTo ws ps p = ps := by unfold dsendTo; rw [if_pos hc]
    rw [hc]
    have S2 := hide s2
    have E1 := hide e1
    clear s2 hc e1
    go_wp2_with fail
    go_ret
    exact ⟨rfl, by rw [E1.out]; exact ⟨_, _, S2.out.erase 3⟩⟩
  · have e1 : dsendTo ws ps p = ps ++ [p] := by unfold dsendTo; rw [if_neg hc]
    have hcf : isCut ws p.from_ p.to_ = false := by simpa using hc
    rw [hcf]
    have g1 : w2.heap[dn]? = some (.cells #[v1', v2'] 61 (0, 0)) := s2.get 0 rfl
    have o1 : w2.ownsRow base 25 3 v1' ps.length (ps.flatMap pkCells) := s2.get 1 rfl
    obtain ⟨A', c', rfl⟩ := (Rd.of_own o1).shape
    have hb2 := s2.base_le
    have d0 := (cell2 g1).1
    have d0f := (cell2 g1).2.2
    obtain ⟨e0, e1', e2, _⟩ := cell3 (s2.get 3 rfl)
    have d0a := (World.cell?_alloc_lt w2 (.cells #[.int .i64 p.from_, .int .i64 p.to_, .string p.data] 25) _ (box_lt g1)).trans d0
    have G1 := hide g1
    have S2 := hide s2
    have E1 := hide e1
    clear s2 hc hcf e1 g1
    go_wp2_with fail
    go_region_law (refine step_append_lies _ rfl (.tmp 32) (.tmp 34) 22 rfl base 25 i0 _ 3 32 Try.underlying22 hinf hz0 hz1 hz2 rfl (by decide) (.slice A' ps.length c') ps.length (ps.flatMap pkCells) (by simp [Act.eval]) (by exact o1.alloc _) ⟨w2.heap.size, 0, none⟩ 1 1 (pkCells p) (by simp [Act.eval]) rfl (by exact cells_new w2 (pkCells p) 25) (pk_oneCell p) (by omega) (by unfold maxLen; omega) (by omega) (by simp; omega) _ rfl ?_; intro g cap w3 own3 grow3 hat3 hlt3; have t3 : Turn (fun k => (Value.slice A' ps.length c').ownBlock = some k) w2 w3 := (((Turn.refl _ w2).alloc (.cells (pkCells p).toArray 25)).drew).grown grow3 (fun k _ hk => hk); have g3 := Turn.obj_own G1.out (by intro _ _ e; cases e) o1 t3; have k0 := (cell2 g3).1; have k0f := (cell2 g3).2.2)
    all_goals
      have own3' : w3.ownsRow base 25 3 (.slice (some ⟨g, 0, none⟩) (ps ++ [p]).length cap) (ps ++ [p]).length ((ps ++ [p]).flatMap pkCells) := by simpa using own3
      have fin := doc_row (ps' := ps ++ [p]) S2.out t3 own3' (fun g' hg => by
        have hg2 : g = g' := Option.some.inj hg
        subst hg2
        exact hat3.elim .inl (fun e => .inr (by simp at e; omega)))
      rw [List.length_append] at fin
      have FIN := hide fin
      clear fin own3 own3' k0 k0f d0 d0f d0a e0 e1' e2 g3
      go_wp2
      go_ret
      exact ⟨rfl, by rw [E1.out]; exact ⟨_, _, FIN.out.erase 3⟩⟩
end Go.Proofs.Ytniiikgkeiomoaa
