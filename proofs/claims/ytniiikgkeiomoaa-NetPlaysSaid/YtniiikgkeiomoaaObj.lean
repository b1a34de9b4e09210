/-
  The net as a thing beside others; its functions told so.
-/
import Derived.Test.YtniiikgkeiomoaaEq
import Derived.Test.YtniiikgkeiomoaaSep
namespace Go.Proofs.Ytniiikgkeiomoaa
open Go.RowKit Go.Maps

/-- The blocks of a net, its map's too. -/
def NetF (w : World) (nb k : Nat) : Prop := NetB w nb k ∨ w.cell? ⟨nb, 1, none⟩ = some (.map (some k))
theorem IsNet.ltF {w : World} {base nb : Nat} {ps : List Pk} {C : Cuts} (h : IsNet w base nb ps C) {k : Nat} (hk : NetF w nb k) : base ≤ k ∧ k < w.heap.size := by
  rcases hk with hk | hk
  · exact NetB.lt h hk
  · obtain ⟨⟨v, m, h1, _, h3, h4, _⟩, _⟩ := h
    rw [(cell2 h1).2.1] at hk
    injection hk with hk
    injection hk with hk
    injection hk with hk
    subst hk
    exact ⟨h4, h3.lt⟩
theorem IsNet.blocks {w w' : World} {base nb : Nat} {ps : List Pk} {C : Cuts} (h : IsNet w base nb ps C) (hb : ∀ k, NetF w nb k → w'.heap[k]? = w.heap[k]?) : IsNet w' base nb ps C ∧ ∀ k, NetF w' nb k → NetF w nb k := by
  have e := hb nb (.inl (.inl rfl))
  refine ⟨?_, fun k hk => ?_⟩
  · obtain ⟨⟨v, m, h1, h2, h3, h4⟩, ho⟩ := h
    exact ⟨⟨v, m, e.trans h1, ownsRow_block h2 (fun k hk => hb k (.inl (.inr ⟨_, _, h1, hk⟩))), h3.block (hb m (.inr (cell2 h1).2.1)), h4⟩, ho⟩
  · rcases hk with (rfl | ⟨v, x, h1, h2⟩) | hk
    · exact .inl (.inl rfl)
    · exact .inl (.inr ⟨v, x, e.symm.trans h1, h2⟩)
    · exact .inr ((World.cell?_of_block e).symm.trans hk)

/-- A net, or none. -/
def net (base : Nat) (o : Option Nat) (ps : List Pk) (C : Cuts) : Thing where
  is w := match o with | none => ps = [] | some nb => IsNet w base nb ps C
  foot w k := match o with | none => False | some nb => NetF w nb k
  lt := fun {w k} h hk => by
    cases o with
    | none => exact hk.elim
    | some nb => exact (IsNet.ltF h hk).2
  stay := fun {w w'} h hb => by
    cases o with
    | none => exact ⟨h, fun _ h => h⟩
    | some nb => exact IsNet.blocks h hb
def ptr : Option Nat → Value
  | none => .pointer none
  | some nb => .pointer (some ⟨nb, 0, none⟩)

/-- What is told, and what lies there behind it. -/
def Tells (v : Value) (base : Nat) (w0 : World) (ts : List Thing) (e : Ending) (w' : World) : Prop := e = .returned v ∧ Lie base w0 w' ts

theorem set_same {ts : List Thing} {n : Nat} {t : Thing} (h : ts[n]? = some t) : ts.set n t = ts := by
  obtain ⟨h1, h2⟩ := List.getElem?_eq_some_iff.1 h
  rw [← h2, List.set_getElem_self]

section
variable {base n : Nat} {w0 w : World} {ts : List Thing} {nb : Nat} {o : Option Nat} {ps ps' : List Pk} {C : Cuts}
theorem tells_same {v : Value} {e : Ending} {w' : World} {t : Thing} (h : Lie base w0 w ts) (hn : ts[n]? = some t) (hs : Same v w e w') : Tells v base w0 (ts.set n t) e w' :=
  ⟨hs.1, by rw [set_same hn]; exact h.stay hs.2⟩
theorem lie_do {w' : World} (h : Lie base w0 w ts) (hn : ts[n]? = some (net base (some nb) ps C)) (hd : NetDo w base nb ps' C w') : Lie base w0 w' (ts.set n (net base (some nb) ps' C)) := by
  refine h.step n hn (hd.turn.mono fun _ _ hk => .inl hk) hd.net (fun k hk => ?_)
  rcases hk with hk | hk
  · exact (hd.rows k hk).imp .inl id
  · exact .inl (.inr (hd.cell1.symm.trans hk))
theorem tells_do {v : Value} {e : Ending} {w' : World} (h : Lie base w0 w ts) (hn : ts[n]? = some (net base (some nb) ps C)) (hs : NetPost v w base nb ps' C e w') : Tells v base w0 (ts.set n (net base (some nb) ps' C)) e w' :=
  ⟨hs.1, lie_do h hn hs.2⟩
theorem lie_net (h : Lie base w0 w ts) (hn : ts[n]? = some (net base (some nb) ps C)) : IsNet w base nb ps C := h.get n hn
theorem lie_none (h : Lie base w0 w ts) (hn : ts[n]? = some (net base none ps C)) : ps = [] := h.get n hn

/-- Send. -/
def sendOk (o : Option Nat) (ps : List Pk) (p : Pk) : Bool := o.isSome && decide (p.data.size ≤ 8192 ∧ ps.length < 1024)
def sendTo (o : Option Nat) (ps : List Pk) (C : Cuts) (p : Pk) : List Pk := if sendOk o ps p = true ∧ cutOf C p = false then ps ++ [p] else ps
theorem send_any (h : Lie base w0 w ts) (n : Nat) (o : Option Nat) (ps : List Pk) (C : Cuts) (hn : ts[n]? = some (net base o ps C)) (p : Pk) (hp : p.ok) :
    Calls Try.prog 12 #[ptr o, p.v] w (Tells (.bool (sendOk o ps p)) base w0 (ts.set n (net base o (sendTo o ps C p) C))) := by
  cases o with
  | none =>
    refine (send_nil p w).mono fun e w' hs => ?_
    have : sendTo none ps C p = ps := by simp [sendTo, sendOk]
    rw [this]
    exact tells_same h hn hs
  | some nb =>
    have hN := lie_net h hn
    by_cases hd : p.data.size ≤ 8192
    · by_cases hl : ps.length < 1024
      · have e1 : sendOk (some nb) ps p = true := by simp [sendOk, hd, hl]
        rw [e1]
        by_cases hc : cutOf C p = true
        · have : sendTo (some nb) ps C p = ps := by simp [sendTo, hc]
          rw [this]
          exact (send_cut base nb ps C p w hN hd hl hp hc).mono fun e w' hs => tells_same h hn hs
        · have hc' : cutOf C p = false := by simpa using hc
          have : sendTo (some nb) ps C p = ps ++ [p] := by simp [sendTo, e1, hc']
          rw [this]
          exact (send_go base nb ps C p w hN hd hl hp hc').mono fun e w' hs => tells_do h hn hs
      · have e1 : sendOk (some nb) ps p = false := by simp [sendOk]; omega
        have : sendTo (some nb) ps C p = ps := by simp [sendTo, e1]
        rw [e1, this]
        exact (send_full base nb ps C p w hN hd (by omega)).mono fun e w' hs => tells_same h hn hs
    · have e1 : sendOk (some nb) ps p = false := by simp [sendOk]; omega
      have : sendTo (some nb) ps C p = ps := by simp [sendTo, e1]
      rw [e1, this]
      exact (send_long _ p w (by omega)).mono fun e w' hs => tells_same h hn hs

theorem lie_empty (h : Lie base w0 w ts) {o : Option Nat} (hn : ts[n]? = some (net base o [] C)) : ∃ q, ptr o = .pointer q ∧ Empty w base q := by
  cases o with
  | none => exact ⟨none, rfl, .inl rfl⟩
  | some nb => exact ⟨_, rfl, .inr ⟨nb, C, rfl, lie_net h hn⟩⟩
theorem lie_some (h : Lie base w0 w ts) {o : Option Nat} {p : Pk} (hn : ts[n]? = some (net base o (p :: ps) C)) : ∃ nb, o = some nb := by
  cases o with
  | none => cases lie_none h hn
  | some nb => exact ⟨nb, rfl⟩

/-- Come. -/
def lostTo (ps : List Pk) (i : Int) : List Pk := ps.eraseIdx (at_ i ps.length)
def comeOf (C : Cuts) (ps : List Pk) (i : Int) : Option Pk := match ps[at_ i ps.length]? with
  | none => none
  | some p => if cutOf C p = true then none else some p
def told : Option Pk → Value
  | none => .tuple #[zeroPk, .bool false]
  | some p => .tuple #[p.v, .bool true]
theorem come_any (h : Lie base w0 w ts) (n : Nat) (o : Option Nat) (ps : List Pk) (C : Cuts) (hn : ts[n]? = some (net base o ps C)) (i : Int) (hm : ps.length ≤ 1000000) :
    Calls Try.prog 13 #[ptr o, .int .i64 i] w (Tells (told (comeOf C ps i)) base w0 (ts.set n (net base o (lostTo ps i) C))) := by
  cases ps with
  | nil =>
    obtain ⟨q, e1, e2⟩ := lie_empty h hn
    rw [e1]
    exact (come_empty base q i w e2).mono fun e w' hs => tells_same h hn hs
  | cons p ps =>
    obtain ⟨nb, rfl⟩ := lie_some h hn
    have hl := at_lt i (p :: ps).length (by simp)
    refine (come_ok base nb (p :: ps) C i w (lie_net h hn) (by simp) hm _ rfl hl).mono fun e w' hs => ?_
    have : told (comeOf C (p :: ps) i) = comeV C ((p :: ps)[at_ i (p :: ps).length]) := by
      unfold comeOf comeV
      rw [List.getElem?_eq_getElem hl]
      dsimp only
      split <;> rfl
    rw [this]
    exact tells_do h hn hs
theorem lose_any (h : Lie base w0 w ts) (n : Nat) (o : Option Nat) (ps : List Pk) (C : Cuts) (hn : ts[n]? = some (net base o ps C)) (i : Int) (hm : ps.length ≤ 1000000) :
    Calls Try.prog 15 #[ptr o, .int .i64 i] w (Tells (.bool (!ps.isEmpty)) base w0 (ts.set n (net base o (lostTo ps i) C))) := by
  cases ps with
  | nil =>
    obtain ⟨q, e1, e2⟩ := lie_empty h hn
    rw [e1]
    exact (lose_empty base q i w e2).mono fun e w' hs => tells_same h hn hs
  | cons p ps =>
    obtain ⟨nb, rfl⟩ := lie_some h hn
    have hl := at_lt i (p :: ps).length (by simp)
    exact (lose_ok base nb (p :: ps) C i w (lie_net h hn) (by simp) hm _ rfl hl).mono fun e w' hs => tells_do h hn hs
def dupOk (ps : List Pk) : Bool := decide (0 < ps.length ∧ ps.length < 1024)
def dupTo (ps : List Pk) (i : Int) : List Pk := if dupOk ps = true then ps ++ (ps[at_ i ps.length]?).toList else ps
theorem dup_any (h : Lie base w0 w ts) (n : Nat) (o : Option Nat) (ps : List Pk) (C : Cuts) (hn : ts[n]? = some (net base o ps C)) (i : Int) (hm : ps.length ≤ 1000000) :
    Calls Try.prog 16 #[ptr o, .int .i64 i] w (Tells (.bool (dupOk ps)) base w0 (ts.set n (net base o (dupTo ps i) C))) := by
  cases ps with
  | nil =>
    obtain ⟨q, e1, e2⟩ := lie_empty h hn
    rw [e1]
    exact (dup_empty base q i w e2).mono fun e w' hs => tells_same h hn hs
  | cons p ps =>
    obtain ⟨nb, rfl⟩ := lie_some h hn
    have hl := at_lt i (p :: ps).length (by simp)
    by_cases hf : (p :: ps).length < 1024
    · have e1 : dupOk (p :: ps) = true := by unfold dupOk; rw [decide_eq_true_eq]; exact ⟨by simp, hf⟩
      have e2 : dupTo (p :: ps) i = (p :: ps) ++ [(p :: ps)[at_ i (p :: ps).length]] := by
        unfold dupTo
        rw [if_pos e1, List.getElem?_eq_getElem hl]
        rfl
      rw [e1, e2]
      exact (dup_ok base nb (p :: ps) C i w (lie_net h hn) (by simp) hf _ rfl hl).mono fun e w' hs => tells_do h hn hs
    · have e1 : dupOk (p :: ps) = false := by unfold dupOk; rw [decide_eq_false_iff_not]; omega
      have e2 : dupTo (p :: ps) i = (p :: ps) := by
        unfold dupTo
        rw [e1]
        rfl
      rw [e1, e2]
      exact (dup_full base nb (p :: ps) C i w (lie_net h hn) (by omega) hm).mono fun e w' hs => tells_same h hn hs
theorem waiting_any (h : Lie base w0 w ts) (n : Nat) (o : Option Nat) (ps : List Pk) (C : Cuts) (hn : ts[n]? = some (net base o ps C)) :
    Calls Try.prog 14 #[ptr o] w fun e w' => e = .returned (.int .i64 ps.length) ∧ w = w' := by
  cases o with
  | none =>
    obtain rfl := lie_none h hn
    exact waiting_nil w
  | some nb => exact waiting_ok base nb ps C w (lie_net h hn)
end

/-- New. -/
theorem new_any {base : Nat} {w0 w : World} {ts : List Thing} (h : Lie base w0 w ts) : Calls Try.prog 11 #[] w fun e w' => e = .returned (ptr (some (w.heap.size + 1))) ∧ Lie base w0 w' (net base (some (w.heap.size + 1)) [] Cuts.none :: ts) := by
  refine (new_net w.heap.size w (Nat.le_refl _)).mono fun e w' ⟨he, hn, ht⟩ => ⟨he, h.push ht ?_ fun k hk => (IsNet.ltF hn hk).1⟩
  obtain ⟨⟨v, m, h1, h2, h3, h4, h5⟩, ho⟩ := hn
  have hb := h.base_le
  refine ⟨⟨v, m, h1, ⟨h2.1, ?_⟩, h3, by omega, by omega⟩, ho⟩
  rcases h2.2 with h6 | ⟨g, cap, cur, hv, hg, r⟩
  · exact .inl h6
  · exact .inr ⟨g, cap, cur, hv, by omega, r⟩
end Go.Proofs.Ytniiikgkeiomoaa
