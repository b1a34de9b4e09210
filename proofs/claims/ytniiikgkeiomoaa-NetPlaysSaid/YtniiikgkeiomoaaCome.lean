/-
  Come and Lose.
-/
import Derived.Test.YtniiikgkeiomoaaTake
namespace Go.Proofs.Ytniiikgkeiomoaa
open Go.RowKit Go.Maps

/-- None is there. -/
def Empty (w : World) (base : Nat) (p : Option Addr) : Prop := p = none ∨ ∃ nb C, p = some ⟨nb, 0, none⟩ ∧ IsNet w base nb [] C
theorem Empty.turn0 {w w' : World} {base : Nat} {p : Option Addr} (h : Empty w base p) (t : Turn (fun _ => False) w w') : Empty w' base p := by
  rcases h with h | ⟨nb, C, h, hn⟩
  · exact .inl h
  · exact .inr ⟨nb, C, h, hn.turn0 t⟩
theorem place_empty (base : Nat) (p : Option Addr) (i : Int) (w : World) (h : Empty w base p) : Calls Try.prog 26 #[.pointer p, .int .i64 i] w fun e w' => e = .returned (.tuple #[.int .i64 0, .bool false]) ∧ w = w' := by
  rcases h with rfl | ⟨nb, C, rfl, hn⟩
  · exact place_nil i w
  · exact place_no base nb C i w hn
theorem take_empty (base : Nat) (p : Option Addr) (i : Int) (w : World) (h : Empty w base p) : Calls Try.prog 25 #[.pointer p, .int .i64 i] w (Same (.tuple #[zeroPk, .bool false]) w) := by
  have H := hide h
  clear h
  go_enter Try.func25, Try.ntmps25
  go_wp2_with fail
  refine (place_empty base p i _ (H.out.turn0 ((Turn.refl _ w).alloc _))).mono ?_
  rintro e w' ⟨rfl, rfl⟩
  go_wp2_with fail
  exact bodyPost_ret (v := .tuple #[zeroPk, .bool false]) (by simp [results, Try.results25, go_sem]) rfl ⟨rfl, (Turn.refl _ w).alloc _⟩
theorem lose_empty (base : Nat) (p : Option Addr) (i : Int) (w : World) (h : Empty w base p) : Calls Try.prog 15 #[.pointer p, .int .i64 i] w (Same (.bool false) w) := by
  have H := hide h
  clear h
  go_enter Try.func15, Try.ntmps15
  go_wp2_with fail
  refine (take_empty base p i _ H.out).mono ?_
  rintro e w1 ⟨rfl, t1⟩
  go_wp2_with fail
  go_ret
  exact ⟨rfl, t1.alloc _⟩
theorem come_empty (base : Nat) (p : Option Addr) (i : Int) (w : World) (h : Empty w base p) : Calls Try.prog 13 #[.pointer p, .int .i64 i] w (Same (.tuple #[zeroPk, .bool false]) w) := by
  have H := hide h
  clear h
  obtain ⟨W, hW⟩ : ∃ W, W = w.alloc (.cells #[.int .i64 0, .int .i64 0, .string ⟨#[]⟩] 25) := ⟨_, rfl⟩
  have tW : Turn (fun _ => False) w W := by rw [hW]; exact (Turn.refl _ w).alloc _
  have z0 : W.heap[w.heap.size]? = some (.cells #[.int .i64 0, .int .i64 0, .string ⟨#[]⟩] 25 (0, 0)) := by rw [hW]; exact heap_alloc_new w _
  have HW := hide hW
  clear hW
  go_enter Try.func13, Try.ntmps13
  go_wp2_with fail
  rw [← HW.out]
  refine (take_empty base p i _ (H.out.turn0 tW)).mono ?_
  rintro e w1 ⟨rfl, t1⟩
  have z1 : (w1.alloc (.cells #[.int .i64 0, .int .i64 0, .string ⟨#[]⟩] 25)).heap[w.heap.size]? = some (.cells #[.int .i64 0, .int .i64 0, .string ⟨#[]⟩] 25 (0, 0)) := (t1.alloc _).obj z0 (fun h => h)
  obtain ⟨x0, x1, x2, x3, x4, x5⟩ := cell3 z1
  have Z1 := hide z1
  clear z1 z0
  go_wp2_with fail
  have hY := set3 (u0 := .int .i64 0) (u1 := .int .i64 0) (u2 := .string ⟨#[]⟩) Z1.out
  have tY := ((tW.trans t1).alloc (.cells #[.int .i64 0, .int .i64 0, .string ⟨#[]⟩] 25))
  generalize w1.alloc (.cells #[.int .i64 0, .int .i64 0, .string ⟨#[]⟩] 25) = U at *
  have tF := tY.step (turn3 U w.heap.size (.int .i64 0) (.int .i64 0) (.string ⟨#[]⟩)) (fun k hk e => by omega)
  generalize ((U.setCell ⟨w.heap.size, 0, none⟩ (.int .i64 0)).setCell ⟨w.heap.size, 1, none⟩ (.int .i64 0)).setCell ⟨w.heap.size, 2, none⟩ (.string ⟨#[]⟩) = Y at *
  obtain ⟨y0, y1, y2, _⟩ := cell3 hY
  exact bodyPost_ret (v := .tuple #[zeroPk, .bool false]) (by simp [results, Try.results13, go_sem, y0, y1, y2]) rfl ⟨rfl, tF⟩

theorem NetB.of {w W : World} {nb k : Nat} (h : NetB W nb k) (e : W.heap[nb]? = w.heap[nb]?) : NetB w nb k := by
  rcases h with h | ⟨v, x, h1, h2⟩
  · exact .inl h
  · exact .inr ⟨v, x, e.symm.trans h1, h2⟩
/-- The net stays under stores into a box that is none of its own. -/
theorem IsNet.turnS {w w' : World} {base nb R : Nat} {ps : List Pk} {C : Cuts} (h : IsNet w base nb ps C) (t : Turn (· = R) w w') (hR : ¬ NetB w nb R) {cs : Array Value} (hc : w.heap[R]? = some (.cells cs 25 (0, 0))) : IsNet w' base nb ps C := by
  obtain ⟨⟨v, m, h1, h2, h3, h4⟩, ho⟩ := h
  refine ⟨⟨v, m, t.obj h1 (fun e => hR (.inl e.symm)), ownsRow_turn h2 t (fun g hg e => hR (.inr ⟨v, _, h1, by rw [hg, e]⟩)), h3.turn t (fun e => ?_), h4⟩, ho⟩
  obtain ⟨es, cl, h5⟩ := h3.isMap
  rw [e, hc] at h5
  cases h5
/-- Steps beside a net, ahead of and behind what was done to it. -/
theorem NetDo.beside {w W w1 w2 : World} {base nb : Nat} {ps ps' : List Pk} {C : Cuts} (h : IsNet w base nb ps C) (t0 : Turn (fun _ => False) w W) (hd : NetDo W base nb ps' C w1) (t2 : Turn (fun k => w.heap.size ≤ k ∧ k < W.heap.size) w1 w2) (hn : IsNet w2 base nb ps' C) (hb : w2.heap[nb]? = w1.heap[nb]?) : NetDo w base nb ps' C w2 := by
  have e := t0.block nb h.lt (fun h => h)
  refine ⟨hn, ((t0.mono fun _ _ h => h.elim).trans (hd.turn.mono fun k _ hk => hk.of e)).step t2 (fun k hk hk2 => by omega), ?_, fun k hk => ?_⟩
  · exact (World.cell?_of_block hb).trans (hd.cell1.trans (World.cell?_of_block e))
  rcases hd.rows k (hk.of hb) with h1 | h1
  · exact .inl (h1.of e)
  · exact .inr (by have := t0.size; omega)

def comeV (C : Cuts) (p : Pk) : Value := if cutOf C p = true then .tuple #[zeroPk, .bool false] else .tuple #[p.v, .bool true]
def ComePost (w : World) (base nb : Nat) (ps : List Pk) (C : Cuts) (k : Nat) (p : Pk) (e : Ending) (w' : World) : Prop :=
  e = .returned (comeV C p) ∧ NetDo w base nb (ps.eraseIdx k) C w'

set_option maxRecDepth 100000 in
set_option maxHeartbeats 2000000 in
theorem come_ok (base nb : Nat) (ps : List Pk) (C : Cuts) (i : Int) (w : World) (h : IsNet w base nb ps C) (hp : 0 < ps.length) (hm : ps.length ≤ 1000000) (k : Nat) (hk : k = at_ i ps.length) (hkl : k < ps.length) :
    Calls Try.prog 13 #[.pointer (some ⟨nb, 0, none⟩), .int .i64 i] w (ComePost w base nb ps C k ps[k]) := by
  have H := hide h
  have HK := hide hk
  have hpk : ps[k].ok := h.ok _ (List.getElem_mem hkl)
  obtain ⟨W, hW⟩ : ∃ W, W = w.alloc (.cells #[.int .i64 0, .int .i64 0, .string ⟨#[]⟩] 25) := ⟨_, rfl⟩
  have tW : Turn (fun _ => False) w W := by rw [hW]; exact (Turn.refl _ w).alloc _
  have hszW : W.heap.size = w.heap.size + 1 := by rw [hW]; simp
  have z0 : W.heap[w.heap.size]? = some (.cells #[.int .i64 0, .int .i64 0, .string ⟨#[]⟩] 25 (0, 0)) := by rw [hW]; exact heap_alloc_new w _
  have eW := tW.block nb h.lt (fun h => h)
  have hnR : ¬ NetB W nb w.heap.size := fun hh => by have := (NetB.lt h (hh.of eW)).2; omega
  have HNR := hide hnR
  have HW := hide hW
  obtain ⟨P, hP⟩ : ∃ P, P = ps[k] := ⟨_, rfl⟩
  rw [← hP] at hpk ⊢
  have HP := hide hP
  clear hW h hk hnR hP
  go_enter Try.func13, Try.ntmps13
  go_wp2_with fail
  rw [← HW.out]
  refine (take_ok base nb ps C i W (H.out.turn0 tW) hp hm k HK.out hkl).mono ?_
  rintro e w1 ⟨rfl, hd⟩
  rw [← HP.out]
  obtain ⟨U, hU⟩ : ∃ U, U = w1.alloc (.cells #[.int .i64 P.from_, .int .i64 P.to_, .string P.data] 25) := ⟨_, rfl⟩
  have tU : Turn (fun _ => False) w1 U := by rw [hU]; exact (Turn.refl _ w1).alloc _
  have z1 : w1.heap[w.heap.size]? = some (.cells #[.int .i64 0, .int .i64 0, .string ⟨#[]⟩] 25 (0, 0)) := hd.turn.obj z0 HNR.out
  have yU : U.heap[w1.heap.size]? = some (.cells #[.int .i64 P.from_, .int .i64 P.to_, .string P.data] 25 (0, 0)) := by rw [hU]; exact heap_alloc_new w1 _
  have nU := hd.net.turn0 tU
  have hnU : ¬ NetB U nb w.heap.size := fun hh => by
    rcases hd.rows _ (hh.of (tU.block nb hd.net.lt (fun h => h))) with h1 | h1
    · exact HNR.out h1
    · omega
  obtain ⟨⟨v, m, g1, g2, g3, g4⟩, gok⟩ := nU
  have c1 := (cell2 g1).2.1
  have NU := hide (show IsNet U base nb (ps.eraseIdx k) C from ⟨⟨v, m, g1, g2, g3, g4⟩, gok⟩)
  have HU := hide hU
  have HNU := hide hnU
  have HD := hide hd
  clear hU hnU hd z0 g2 gok
  go_wp2_with fail
  rw [← HU.out]
  refine (closed_any nb m C P U hpk c1 g3).mono ?_
  rintro e w2 ⟨rfl, t2⟩
  have z2 := t2.obj (tU.obj z1 (fun h => h)) (fun h => h)
  have y2 := t2.obj yU (fun h => h)
  obtain ⟨x0, x1, x2, x3, x4, x5⟩ := cell3 z2
  obtain ⟨y0, y1, y2', _⟩ := cell3 y2
  have Z2 := hide z2
  have n2 := NU.out.turn0 t2
  have N2 := hide n2
  have hn2 : ¬ NetB w2 nb w.heap.size := fun hh => HNU.out (hh.of (t2.block nb NU.out.lt (fun h => h)))
  have HN2 := hide hn2
  have t12 : Turn (fun _ => False) w1 w2 := tU.trans t2
  have e12 : w2.heap[nb]? = w1.heap[nb]? := t12.block nb HD.out.net.lt (fun h => h)
  have E12 := hide e12
  have fin : ∀ u0 u1 u2 : Value, NetDo w base nb (ps.eraseIdx k) C (((w2.setCell ⟨w.heap.size, 0, none⟩ u0).setCell ⟨w.heap.size, 1, none⟩ u1).setCell ⟨w.heap.size, 2, none⟩ u2) := by
    intro u0 u1 u2
    have t3 := turn3 w2 w.heap.size u0 u1 u2
    have hne : w.heap.size ≠ nb := fun e => HN2.out (.inl e)
    refine NetDo.beside H.out tW HD.out ((t12.mono fun _ _ h => h.elim).trans (t3.mono fun k _ e => by rw [e]; omega)) (N2.out.turnS t3 HN2.out Z2.out) ?_
    exact (t3.block nb N2.out.lt (fun e => hne e.symm)).trans E12.out
  have FIN := hide fin
  clear fin z1 z2 y2 yU g1 g3 n2 hn2 e12
  by_cases hc : cutOf C P = true
  · rw [hc]
    go_wp2_with fail
    have hY := set3 (u0 := .int .i64 0) (u1 := .int .i64 0) (u2 := .string ⟨#[]⟩) Z2.out
    have hF := FIN.out (.int .i64 0) (.int .i64 0) (.string ⟨#[]⟩)
    generalize ((w2.setCell ⟨w.heap.size, 0, none⟩ (.int .i64 0)).setCell ⟨w.heap.size, 1, none⟩ (.int .i64 0)).setCell ⟨w.heap.size, 2, none⟩ (.string ⟨#[]⟩) = Y at *
    obtain ⟨a0, a1, a2, _⟩ := cell3 hY
    exact bodyPost_ret (v := .tuple #[zeroPk, .bool false]) (by simp [results, Try.results13, go_sem, a0, a1, a2]) rfl ⟨by simp [comeV, hc], hF⟩
  · have hc' : cutOf C P = false := by simpa using hc
    rw [hc']
    go_wp2_with fail
    have hY := set3 (u0 := .int .i64 P.from_) (u1 := .int .i64 P.to_) (u2 := .string P.data) Z2.out
    have hF := FIN.out (.int .i64 P.from_) (.int .i64 P.to_) (.string P.data)
    generalize ((w2.setCell ⟨w.heap.size, 0, none⟩ (.int .i64 P.from_)).setCell ⟨w.heap.size, 1, none⟩ (.int .i64 P.to_)).setCell ⟨w.heap.size, 2, none⟩ (.string P.data) = Y at *
    obtain ⟨a0, a1, a2, _⟩ := cell3 hY
    exact bodyPost_ret (v := .tuple #[P.v, .bool true]) (by simp [results, Try.results13, go_sem, a0, a1, a2]) rfl ⟨by simp [comeV, hc'], hF⟩
end Go.Proofs.Ytniiikgkeiomoaa
