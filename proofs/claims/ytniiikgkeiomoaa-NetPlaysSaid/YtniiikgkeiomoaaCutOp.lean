/-
  Cut.
-/
import Derived.Test.YtniiikgkeiomoaaObj
namespace Go.Proofs.Ytniiikgkeiomoaa
open Go.RowKit Go.Maps

section
variable {w : World} {m : Nat} {C : Cuts}
theorem CutMap.put (h : CutMap w m C) (hn : C.n < maxLen) (a b : Int) (ha : (Lit.int .i64 a).wf = true) (hb : (Lit.int .i64 b).wf = true) :
    ∃ w', (Instr.mapUpdate 48 (.map (some m)) (.agg #[.int .i64 a, .int .i64 b]) (.agg #[])).run Try.prog w = .ok () w' ∧ CutMap w' m (C.set a b true) ∧ Turn (· = m) w w' := by
  obtain ⟨n, D, hnC, h1, h2⟩ := h
  obtain ⟨kl, hk⟩ := key55 a b ha hb
  obtain ⟨w', hrun, r1, r2⟩ := h1.store keyed55 Try.underlying48 (Nat.lt_of_le_of_lt hnC hn) hk unitElem_mk
  refine ⟨_, hrun, ⟨n + 1, _, Nat.succ_le_succ hnC, r1, fun x y kl' hk' => ?_⟩, ?_⟩
  · by_cases e : kl' = kl
    · subst e
      rw [has_put_same h1.isMap (keyed55.key hk)]
      have := keyed55.inj hk hk'
      injection this with this
      obtain ⟨rfl, rfl⟩ : a = x ∧ b = y := by simpa using this
      simp [Cuts.set]
    · rw [has_put_other e, h2 x y kl' hk']
      have : ¬ (x = a ∧ y = b) := by
        rintro ⟨rfl, rfl⟩
        rw [hk] at hk'
        exact e (Option.some.inj hk').symm
      simp [Cuts.set, this]
  · exact (Turn.refl (· = m) w).grown r2.grown (fun k _ hk => (Option.some.inj hk).symm)
theorem CutMap.del (h : CutMap w m C) (a b : Int) (ha : (Lit.int .i64 a).wf = true) (hb : (Lit.int .i64 b).wf = true) (ty : TypeId) :
    ∃ w', (Builtin.delete_ #[48, 55] ty #[.map (some m), .agg #[.int .i64 a, .int .i64 b]]).run Try.prog w = .ok (.tuple #[]) w' ∧ CutMap w' m (C.set a b false) ∧ Turn (· = m) w w' := by
  obtain ⟨n, D, hnC, h1, h2⟩ := h
  obtain ⟨kl, hk⟩ := key55 a b ha hb
  obtain ⟨w', hrun, r1, r2⟩ := h1.drop keyed55 Try.underlying48 hk ty
  refine ⟨_, hrun, ⟨n, _, Nat.le_succ_of_le hnC, r1, fun x y kl' hk' => ?_⟩, ?_⟩
  · by_cases e : kl' = kl
    · subst e
      rw [has_del_same]
      have := keyed55.inj hk hk'
      injection this with this
      obtain ⟨rfl, rfl⟩ : a = x ∧ b = y := by simpa using this
      simp [Cuts.set]
    · rw [has_del_other e, h2 x y kl' hk']
      have : ¬ (x = a ∧ y = b) := by
        rintro ⟨rfl, rfl⟩
        rw [hk] at hk'
        exact e (Option.some.inj hk').symm
      simp only [Cuts.set, if_neg this]
  · exact (Turn.refl (· = m) w).grown r2.grown (fun k _ hk => (Option.some.inj hk).symm)
end

/-- What Cut leaves. -/
structure CutDo (w : World) (base nb : Nat) (ps : List Pk) (C : Cuts) (w' : World) : Prop where
  net : IsNet w' base nb ps C
  turn : Turn (NetF w nb) w w'
  blocks : ∀ k, NetF w' nb k → NetF w nb k
def CutPost (w : World) (base nb : Nat) (ps : List Pk) (C : Cuts) (e : Ending) (w' : World) : Prop := e = .returned (.tuple #[]) ∧ CutDo w base nb ps C w'
theorem cut_fin {w w1 w2 : World} {base nb m : Nat} {ps : List Pk} {C D : Cuts} (h : IsNet w base nb ps C) (hc : w.cell? ⟨nb, 1, none⟩ = some (.map (some m))) (t1 : Turn (fun _ => False) w w1) (t2 : Turn (· = m) w1 w2) (hD : CutMap w2 m D) : CutDo w base nb ps D w2 := by
  have n1 := h.turn0 t1
  have c1 := (t1.cell (p := ⟨nb, 1, none⟩) h.lt (fun h => h)).trans hc
  obtain ⟨⟨v, m', h1, h2, h3, h4, h5⟩, hok⟩ := n1
  rw [(cell2 h1).2.1] at c1
  injection c1 with c1
  injection c1 with c1
  injection c1 with c1
  subst c1
  obtain ⟨es, cl, hmb⟩ := h3.isMap
  have hnm : nb ≠ m' := fun e => by rw [e, hmb] at h1; cases h1
  have g2 := t2.obj h1 hnm
  have e2 : w2.heap[nb]? = w.heap[nb]? := (t2.block nb (box_lt h1) hnm).trans (t1.block nb h.lt (fun h => h))
  refine ⟨⟨⟨v, m', g2, ownsRow_turn h2 t2 (fun g hg e => ownsRow_other h2 hmb (fun _ _ e => by cases e) (e ▸ hg)), hD, h4, h5⟩, hok⟩, ?_, fun k hk => ?_⟩
  · exact (t1.mono fun _ _ h => h.elim).trans (t2.mono fun k _ e => .inr (by rw [e]; exact hc))
  · rcases hk with (rfl | ⟨v, x, h6, h7⟩) | hk
    · exact .inl (.inl rfl)
    · exact .inl (.inr ⟨v, x, e2.symm.trans h6, h7⟩)
    · exact .inr ((World.cell?_of_block e2).symm.trans hk)

theorem IsNet.map_ne {w : World} {nb m : Nat} {v : Value} {C : Cuts} {t : TypeId} {fz : Nat × Nat} (h : w.heap[nb]? = some (.cells #[v, .map (some m)] t fz)) (hm : CutMap w m C) : nb ≠ m := fun e => by
  obtain ⟨es, cl, h2⟩ := hm.isMap
  rw [e, h2] at h
  cases h
theorem cut_on (base nb : Nat) (ps : List Pk) (C : Cuts) (a b : Int) (w : World) (h : IsNet w base nb ps C) (hn : C.n < maxLen) (ha : (Lit.int .i64 a).wf = true) (hb : (Lit.int .i64 b).wf = true) :
    Calls Try.prog 17 #[.pointer (some ⟨nb, 0, none⟩), .int .i64 a, .int .i64 b, .bool true] w (CutPost w base nb ps (C.set (lo a b) (hi a b) true)) := by
  have hlt := h.lt
  have H := hide h
  obtain ⟨⟨v, m, h1, h2, h3, h4, h5⟩, hok⟩ := h
  have c1 := (cell2 h1).2.1
  have hnm := hide (IsNet.map_ne h1 h3)
  have HC := hide c1
  clear h1 h2 hok
  go_enter Try.func17, Try.ntmps17
  go_wp2_with fail
  go_region_held3 (fun w' => w'.cell? ⟨nb, 1, none⟩ = some (.map (some m))) (go_keep)
    (first | (go_at_call 27; refine (of_any a b _).mono ?_; rintro e w1 ⟨rfl, t1⟩; have t1' : Turn (fun _ => False) w w1 := Turn.trans (by first | exact (Turn.refl _ _).drew | exact (Turn.refl _ _).drew.alloc _ | exact ((Turn.refl _ _).alloc _).drew) t1; have g0 := (t1'.cell (p := ⟨nb, 1, none⟩) hlt (fun h => h)).trans c1; obtain ⟨w2, hrun, hm2, t2⟩ := (h3.turn t1' (fun h => h)).put hn _ _ (lo_wf ha hb) (hi_wf ha hb); have g2 := (t2.cell (p := ⟨nb, 1, none⟩) (Nat.lt_of_lt_of_le hlt t1'.size) hnm.out).trans g0))
  all_goals
    clear g0 g2 c1 hrun
    go_wp2
    first | refine bodyPost_ret (results_none rfl _ _ _) rfl ?_ | go_end0
    exact ⟨rfl, cut_fin H.out HC.out t1' t2 hm2⟩
theorem cut_off (base nb : Nat) (ps : List Pk) (C : Cuts) (a b : Int) (w : World) (h : IsNet w base nb ps C) (ha : (Lit.int .i64 a).wf = true) (hb : (Lit.int .i64 b).wf = true) :
    Calls Try.prog 17 #[.pointer (some ⟨nb, 0, none⟩), .int .i64 a, .int .i64 b, .bool false] w (CutPost w base nb ps (C.set (lo a b) (hi a b) false)) := by
  have hlt := h.lt
  have H := hide h
  obtain ⟨⟨v, m, h1, h2, h3, h4, h5⟩, hok⟩ := h
  have c1 := (cell2 h1).2.1
  have hnm := hide (IsNet.map_ne h1 h3)
  have HC := hide c1
  clear h1 h2 hok
  go_enter Try.func17, Try.ntmps17
  go_wp2_with fail
  go_region_held3 (fun w' => w'.cell? ⟨nb, 1, none⟩ = some (.map (some m))) (go_keep)
    (first | (go_at_call 27; refine (of_any a b _).mono ?_; rintro e w1 ⟨rfl, t1⟩; have t1' : Turn (fun _ => False) w w1 := Turn.trans (by first | exact (Turn.refl _ _).drew | exact (Turn.refl _ _).drew.alloc _ | exact ((Turn.refl _ _).alloc _).drew) t1; have g0 := (t1'.cell (p := ⟨nb, 1, none⟩) hlt (fun h => h)).trans c1; obtain ⟨w2, hrun, hm2, t2⟩ := (h3.turn t1' (fun h => h)).del _ _ (lo_wf ha hb) (hi_wf ha hb) 0; have g2 := (t2.cell (p := ⟨nb, 1, none⟩) (Nat.lt_of_lt_of_le hlt t1'.size) hnm.out).trans g0))
  all_goals
    clear g0 g2 c1 hrun
    go_wp2
    first | refine bodyPost_ret (results_none rfl _ _ _) rfl ?_ | go_end0
    exact ⟨rfl, cut_fin H.out HC.out t1' t2 hm2⟩
theorem cut_nil (a b : Int) (on : Bool) (w : World) : Calls Try.prog 17 #[.pointer none, .int .i64 a, .int .i64 b, .bool on] w (Same (.tuple #[]) w) := by
  go_enter Try.func17, Try.ntmps17
  go_wp2
  first | refine bodyPost_ret (results_none rfl _ _ _) rfl ?_ | go_end0
  exact ⟨rfl, Turn.refl _ _⟩
def cutTo (o : Option Nat) (C : Cuts) (a b : Int) (on : Bool) : Cuts := match o with | none => C | some _ => C.set (lo a b) (hi a b) on
theorem cut_any {base : Nat} {w0 w : World} {ts : List Thing} (h : Lie base w0 w ts) (n : Nat) (o : Option Nat) (ps : List Pk) (C : Cuts) (hn : ts[n]? = some (net base o ps C)) (a b : Int) (on : Bool) (hC : C.n < maxLen) (ha : (Lit.int .i64 a).wf = true) (hb : (Lit.int .i64 b).wf = true) :
    Calls Try.prog 17 #[ptr o, .int .i64 a, .int .i64 b, .bool on] w (Tells (.tuple #[]) base w0 (ts.set n (net base o ps (cutTo o C a b on)))) := by
  cases o with
  | none => exact (cut_nil a b on w).mono fun e w' hs => tells_same h hn hs
  | some nb =>
    have : ∀ e w', CutPost w base nb ps (C.set (lo a b) (hi a b) on) e w' → Tells (.tuple #[]) base w0 (ts.set n (net base (some nb) ps (cutTo (some nb) C a b on))) e w' := fun e w' hs =>
      ⟨hs.1, h.step n hn hs.2.turn hs.2.net (fun k hk => .inl (hs.2.blocks k hk))⟩
    cases on with
    | true => exact (cut_on base nb ps C a b w (lie_net h hn) hC ha hb).mono this
    | false => exact (cut_off base nb ps C a b w (lie_net h hn) ha hb).mono this
end Go.Proofs.Ytniiikgkeiomoaa
