/-
  Lose and Dup.
-/
import Derived.Test.YtniiikgkeiomoaaCome
namespace Go.Proofs.Ytniiikgkeiomoaa
open Go.RowKit Go.Maps

theorem lose_ok (base nb : Nat) (ps : List Pk) (C : Cuts) (i : Int) (w : World) (h : IsNet w base nb ps C) (hp : 0 < ps.length) (hm : ps.length ≤ 1000000) (k : Nat) (hk : k = at_ i ps.length) (hkl : k < ps.length) :
    Calls Try.prog 15 #[.pointer (some ⟨nb, 0, none⟩), .int .i64 i] w (NetPost (.bool true) w base nb (ps.eraseIdx k) C) := by
  have H := hide h
  have HK := hide hk
  clear h hk
  go_enter Try.func15, Try.ntmps15
  go_wp2_with fail
  refine (take_ok base nb ps C i w H.out hp hm k HK.out hkl).mono ?_
  rintro e w1 ⟨rfl, hd⟩
  go_wp2_with fail
  go_ret
  have t : Turn (fun _ => False) w1 (w1.alloc (.cells #[.int .i64 ps[k].from_, .int .i64 ps[k].to_, .string ps[k].data] 25)) := (Turn.refl _ w1).alloc _
  exact ⟨rfl, NetDo.beside H.out (Turn.refl _ w) hd (t.mono fun _ _ h => h.elim) (hd.net.turn0 t) (t.block nb hd.net.lt (fun h => h))⟩

theorem dup_empty (base : Nat) (p : Option Addr) (i : Int) (w : World) (h : Empty w base p) : Calls Try.prog 16 #[.pointer p, .int .i64 i] w (Same (.bool false) w) := by
  have H := hide h
  clear h
  go_enter Try.func16, Try.ntmps16
  go_wp2_with fail
  refine (place_empty base p i _ H.out).mono ?_
  rintro e w1 ⟨rfl, rfl⟩
  go_wp2_with fail
  go_ret
  exact ⟨rfl, Turn.refl _ _⟩

set_option maxRecDepth 100000 in
theorem dup_full (base nb : Nat) (ps : List Pk) (C : Cuts) (i : Int) (w : World) (h : IsNet w base nb ps C) (hp : 1024 ≤ ps.length) (hm : ps.length ≤ 1000000) :
    Calls Try.prog 16 #[.pointer (some ⟨nb, 0, none⟩), .int .i64 i] w (Same (.bool false) w) := by
  have H := hide h
  obtain ⟨⟨v, m, h1, h2, _⟩, _⟩ := h
  obtain ⟨A, c, rfl⟩ := (Rd.of_own h2).shape
  have c0 := (cell2 h1).1
  clear h1 h2
  go_enter Try.func16, Try.ntmps16
  go_wp2_with fail
  refine (place_ok base nb ps C i _ H.out (by omega) hm).mono ?_
  rintro e w1 ⟨rfl, rfl⟩
  go_wp2_with fail
  go_ret
  exact ⟨rfl, Turn.refl _ _⟩

set_option maxRecDepth 100000 in
set_option maxHeartbeats 2000000 in
theorem dup_ok (base nb : Nat) (ps : List Pk) (C : Cuts) (i : Int) (w : World) (h : IsNet w base nb ps C) (hp : 0 < ps.length) (hm : ps.length < 1024) (k : Nat) (hk : k = at_ i ps.length) (hkl : k < ps.length) :
    Calls Try.prog 16 #[.pointer (some ⟨nb, 0, none⟩), .int .i64 i] w (NetPost (.bool true) w base nb (ps ++ [ps[k]]) C) := by
  obtain ⟨i0, hi, hz0, hz1, hz2⟩ := info_parts info25
  have hb := h.lt
  have hbase := h.base_le
  have H := hide h
  have HK := hide hk
  have hpk : ps[k].ok := h.ok _ (List.getElem_mem hkl)
  obtain ⟨⟨v, m, h1, h2, h3, h4, h5⟩, hok⟩ := h
  obtain ⟨g, cap, rfl, hbg, hgl⟩ := h2.form hp
  obtain ⟨p0, p1, p2⟩ := pk_at ps k hkl
  obtain ⟨b', o', hA, hlt', hcell⟩ := (Rd.of_own h2).cells hp
  injection hA with hA
  injection hA with hA1 hA2
  subst hA1 hA2
  have q0 := hcell _ _ p0
  have q1 := hcell _ _ p1
  have q2 := hcell _ _ p2
  rw [Nat.zero_add] at q0 q1 q2
  obtain ⟨P, hP⟩ : ∃ P, P = ps[k] := ⟨_, rfl⟩
  rw [← hP] at q0 q1 q2 hpk ⊢
  have c0 := (cell2 h1).1
  have c0f := (cell2 h1).2.2
  have c0a : (w.alloc (.cells #[.int .i64 P.from_, .int .i64 P.to_, .string P.data] 25)).cell? ⟨nb, 0, none⟩ = some (.slice (some ⟨g, 0, none⟩) ps.length cap) := (World.cell?_alloc_lt _ _ _ hb).trans c0
  have H1 := hide h1
  have H3 := hide h3
  have HOK := hide hok
  have hki : (k : Int) < (ps.length : Int) := by omega
  clear hk h1 h3 hok p0 p1 p2 hcell hP
  go_enter Try.func16, Try.ntmps16
  go_wp2_with fail
  refine (place_ok base nb ps C i w H.out hp (by omega)).mono ?_
  rintro e w' ⟨rfl, rfl⟩
  rw [← HK.out]
  go_wp2_with fail
  go_region_law (refine step_append_lies _ rfl (.tmp 27) (.tmp 35) 22 rfl base 25 i0 _ 3 32 Try.underlying22 hi hz0 hz1 hz2 rfl (by decide) (.slice (some ⟨g, 0, none⟩) ps.length cap) ps.length (ps.flatMap pkCells) (by simp [Act.eval]) (by exact h2.alloc _) ⟨w.heap.size, 0, none⟩ 1 1 (pkCells P) (by simp [Act.eval]) rfl (by exact cells_new w (pkCells P) 25) (pk_oneCell P) (by omega) (by unfold maxLen; omega) (by omega) (by simp; omega) _ rfl ?_; intro g' cap' w2 own2 grow2 hat2 hlt2; have t2 : Turn (fun k => (Value.slice (some ⟨g, 0, none⟩) ps.length cap).ownBlock = some k) w w2 := (((Turn.refl _ w).alloc (.cells (pkCells P).toArray 25)).drew).grown grow2 (fun k _ hk => hk); have g2 := Turn.obj_own H1.out (by intro _ _ e; cases e) h2 t2; have k0 := (cell2 g2).1; have k0f := (cell2 g2).2.2)
  all_goals
    have own2' : w2.ownsRow base 25 3 (.slice (some ⟨g', 0, none⟩) (ps ++ [P]).length cap') (ps ++ [P]).length ((ps ++ [P]).flatMap pkCells) := by simpa using own2
    have fin := net_stored (w := w) (t2.mono fun k _ hk => .inr ⟨_, _, H1.out, hk⟩) g2 (H3.out.own h2 t2) h4 h5 own2' (by intro q hq; rcases List.mem_append.1 hq with h | h; exact HOK.out q h; simp at h; rw [h]; exact hpk) (hat2.elim (fun e => .inl (.inr ⟨_, _, H1.out, e⟩)) (fun e => .inr (by simp at e; omega))) (cell2 H1.out).2.1
    rw [List.length_append] at fin
    have FIN := hide fin
    clear fin own2 own2' k0 k0f c0 c0f c0a q0 q1 q2
    go_wp2
    go_ret
    exact ⟨rfl, FIN.out⟩
end Go.Proofs.Ytniiikgkeiomoaa
