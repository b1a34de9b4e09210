/-
  A writer of tokens.
-/
import Derived.Test.YtnljdcghaecdaaaGreatDoorRul
namespace Go.Proofs.YtnljdcghaecdaaaGreatDoor
open Go.RowKit Go.Lib Go.Maps
attribute [local go_sem] Oper.semAt_some

theorem info9 : (Tryz.prog.info? 9).map (fun i => (i.zero, i.size, i.bytes)) = some (some (.string ⟨#[]⟩), 1, 16) := by kernel_rfl
def wrt (B b : Nat) (l : List ByteArray) : Thing where
  is w := ∃ v, w.heap[b]? = some (.cells #[v] 110 (0, 0)) ∧ w.ownsRow B 9 1 v l.length (l.flatMap sc) ∧ v.ownBlock ≠ some b
  foot w k := k = b ∨ ∃ v, w.heap[b]? = some (.cells #[v] 110 (0, 0)) ∧ v.ownBlock = some k
  lt := fun {w k} ⟨v, hb, ho, _⟩ hk => by
    rcases hk with rfl | ⟨v', hb', hv⟩
    · exact (Array.getElem?_eq_some_iff.1 hb).1
    · have e := hb.symm.trans hb'
      have : v = v' := by simpa using e
      subst this
      exact (ownsRow_base ho hv).2
  stay := fun {w w'} ⟨v, hb, ho, hv⟩ hk => by
    have h1 : w'.heap[b]? = some (.cells #[v] 110 (0, 0)) := (hk b (.inl rfl)).trans hb
    refine ⟨⟨v, h1, ownsRow_block ho (fun k e => hk k (.inr ⟨v, hb, e⟩)), hv⟩, fun k h => ?_⟩
    rcases h with rfl | ⟨v', hb', e⟩
    · exact .inl rfl
    · have e2 := h1.symm.trans hb'
      have : v = v' := by simpa using e2
      subst this
      exact .inr ⟨v, hb, e⟩
theorem sc_one (l : List ByteArray) : ∀ u ∈ l.flatMap sc, u.oneCell' = true := by
  intro u hu
  obtain ⟨f, hf, hu⟩ := List.mem_flatMap.1 hu
  simp at hu
  subst hu; rfl
section
variable {B : Nat} {w0 w : World} {ts : List Thing} {b : Nat} {l : List ByteArray}
set_option maxRecDepth 100000 in
set_option maxHeartbeats 4000000 in
theorem put_any (news : List ByteArray) (lv : Value) (n : Nat) (hn : ts[n]? = some (wrt B b l)) (h : Hid (Lie B w0 w ts)) (hl : l.length + news.length ≤ 100000) (hr : Hid (Rd w 1 lv news.length (news.flatMap sc))) :
    Calls Tryz.prog 46 #[.pointer (some ⟨b, 0, none⟩), lv] w fun e w' => e = vd ∧ Hid (Lie B w0 w' (ts.set n (wrt B b (l ++ news)))) := by
  obtain ⟨i0, hi0, hz0, hz1, hz2⟩ := info_parts info9
  obtain ⟨v, hb, ho, hv⟩ := h.out.get n hn
  obtain ⟨A, c, rfl⟩ := (Rd.of_own ho).shape
  obtain ⟨A2, c2, rfl⟩ := hr.out.shape
  have HN := hide hn
  have HB := hide hb
  have HO := hide ho
  have HV := hide hv
  have hbase := h.out.base_le
  have c0 : w.cell? ⟨b, 0, none⟩ = some (.slice A l.length c) := by simp [World.cell?, hb]
  have f0 : w.frozen? ⟨b, 0, none⟩ = false := by simp [World.frozen?, hb]
  obtain ⟨ln, hln⟩ : ∃ n, n = l.length := ⟨_, rfl⟩
  obtain ⟨nn, hnn⟩ : ∃ n, n = news.length := ⟨_, rfl⟩
  rw [← hln] at c0 hl HB HO HV
  rw [← hnn] at hl hr ⊢
  have HLN := hide hln
  have HNN := hide hnn
  clear hn hb ho hv hln hnn
  go_enter Tryz.func46, Tryz.ntmps46
  go_wp2_with (at_builtin; refine wpList_appendRd rfl (.tmp 8) (.tmp 9) 108 rfl B 9 i0 _ 1 16 Tryz.underlying108 hi0 hz0 hz1 hz2 rfl (by decide) (.slice A ln c) ln _ (by simp [Act.eval]) HO.out (.slice A2 nn c2) nn (news.flatMap sc) (by simp [Act.eval]) (by exact hr.out) (sc_one news) (by omega) (by omega) hbase ?_; intro v' w2 ho2 t2 hnw; obtain ⟨A3, c3, rfl⟩ := (Rd.of_own ho2).shape; have HO2 := hide ho2; have T2 := hide t2; have HNW := hide hnw; have c1 : w2.cell? ⟨b, 0, none⟩ = some (.slice A ln c) := (t2.cell (p := ⟨b, 0, none⟩) (box_lt HB.out) HV.out).trans c0; have f1 : w2.frozen? ⟨b, 0, none⟩ = false := (box_cell (show w2.heap[b]? = _ from t2.obj HB.out HV.out) 0).2; clear ho2 t2 hnw)
  first | refine bodyPost_ret (results_none rfl _ _ _) rfl ?_ | go_end0
  refine ⟨rfl, hide ?_⟩
  generalize (Value.slice A3 (ln + nn) c3) = v' at *
  have hb2 : w2.heap[b]? = some (.cells #[.slice A ln c] 110 (0, 0)) := T2.out.obj HB.out HV.out
  have hb3 : (w2.setCell ⟨b, 0, none⟩ v').heap[b]? = some (.cells #[v'] 110 (0, 0)) := by rw [set_blk hb2 0 v']; rfl
  have hvb : v'.ownBlock ≠ some b := fun e => by
    rcases HNW.out b e with h1 | h1
    · exact HV.out h1
    · have := box_lt HB.out; omega
  have T3 : Turn (fun k => (wrt B b l).foot w k) w (w2.setCell ⟨b, 0, none⟩ v') := by
    refine (T2.out.mono (fun k _ hk => .inr ⟨_, HB.out, hk⟩)).step ((Turn.refl (fun k => k = b) w2).setCell (p := ⟨b, 0, none⟩) (fun _ => rfl) v') (fun k _ hk => .inl hk)
  refine h.out.step (t' := wrt B b (l ++ news)) n HN.out T3 ⟨v', hb3, ?_, hvb⟩ (fun k hk => ?_)
  · have e1 : (l ++ news).length = ln + nn := by rw [List.length_append, HLN.out, HNN.out]
    rw [e1, List.flatMap_append]
    exact ownsRow_turn HO2.out ((Turn.refl (fun k => k = b) w2).setCell (p := ⟨b, 0, none⟩) (fun _ => rfl) v') (fun g hg e => hvb (by rw [hg, e]))
  · rcases hk with rfl | ⟨v'', hb4, e⟩
    · exact .inl (.inl rfl)
    · have e2 := hb3.symm.trans hb4
      have : v' = v'' := by simpa using e2
      subst this
      rcases HNW.out k e with h1 | h1
      · exact .inl (.inr ⟨_, HB.out, h1⟩)
      · exact .inr h1
theorem rd_new (w : World) (t : TypeId) (vals : Array Value) (news : List ByteArray) (hv : vals = (news.flatMap sc).toArray) : Rd (w.alloc (.cells vals t)) 1 (.slice (some ⟨w.heap.size, 0, none⟩) news.length news.length) news.length (news.flatMap sc) := by
  subst hv
  refine ⟨by rw [flat_length sc_len], _, _, rfl, (fun h => by cases h), fun h0 => ⟨w.heap.size, 0, rfl, by simp, fun j u hj => ?_⟩⟩
  have := cells_new w (news.flatMap sc) t j u hj
  rwa [add_mk] at this
/-- Tokens just laid. -/
theorem put_new (news : List ByteArray) (vals : Array Value) (k : Nat) (n : Nat) (hk : k = news.length) (hv : vals = (news.flatMap sc).toArray) (hn : ts[n]? = some (wrt B b l)) (h : Hid (Lie B w0 w ts)) (hl : l.length + news.length ≤ 100000) :
    Calls Tryz.prog 46 #[.pointer (some ⟨b, 0, none⟩), .slice (some ⟨w.heap.size, 0, none⟩) k k] (w.alloc (.cells vals 9)) fun e w' => e = vd ∧ Hid (Lie B w0 w' (ts.set n (wrt B b (l ++ news)))) := by
  subst hk
  exact put_any news _ n hn (hide (h.out.skip _)) hl (hide (rd_new w 9 vals news hv))
end
end Go.Proofs.YtnljdcghaecdaaaGreatDoor
