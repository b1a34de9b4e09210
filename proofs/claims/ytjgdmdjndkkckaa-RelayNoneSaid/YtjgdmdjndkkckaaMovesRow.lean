/-
  RelayMoves: for every two sizes, every list of texts and every number the statement returns true, and its arguments read as they did. No condition.
-/
import Derived.Test.YtjgdmdjndkkckaaOrderRow
import Derived.Test.YtjgdmdjndkkckaaMoves
namespace Go.Proofs.Ytjgdmdjndkkckaa
open Go.ChangeShapes Go.WideShapes Go.ChangeAt Go.RowKit Go.Conc

/-- What New answers, of whatever size: an answer of two, and nothing that was there has turned. -/
def NewAny (n : Int) (w : World) (e : Ending) (w' : World) : Prop :=
  ∃ v k, e = .returned (.tuple #[.pointer v, .int .i64 k]) ∧ (k = 0 ∨ k = 1) ∧ ((n < 1 ∨ 1024 < n) → k = 1) ∧ Below w.heap.size w w'
theorem new_any (n : Int) (w : World) : Calls Try.prog 9 #[.int .i64 n] w (NewAny n w) := by
  by_cases h : n < 1 ∨ 1024 < n
  · refine (new_no n h w).mono ?_
    rintro e w' ⟨rfl, rfl⟩
    exact ⟨none, 1, rfl, .inr rfl, fun _ => rfl, Below.refl _ _⟩
  · refine (new_box n (by omega) (by omega) w).mono ?_
    rintro e w' ⟨rfl, hn⟩
    exact ⟨_, 0, rfl, .inl rfl, fun h' => absurd h' h, hn.below⟩

set_option maxHeartbeats 400000 in
theorem moves_great (n1 n2 : Int) (vl : Value) (l : List ByteArray) (most : Int) (w : World) (hl : Rd w 1 vl l.length (strs l)) (hm : 300 < l.length) :
    Calls Try.prog 4 #[.int .i64 n1, .int .i64 n2, vl, .int .i64 most] w fun e w' => e = .returned (.bool true) ∧ Below w.heap.size w w' := by
  obtain ⟨A, cA, rfl⟩ := hl.shape
  clear hl
  go_enter Try.func4, Try.ntmps4
  go_wp2_with fail
  refine (wakes_any _).mono ?_
  rintro e w7 ⟨rfl, hb7⟩
  go_wp2_with fail
  go_ret
  exact ⟨rfl, hb7⟩

set_option maxHeartbeats 1000000 in
theorem moves_no (n1 n2 : Int) (hn : (n1 < 1 ∨ 1024 < n1) ∨ (n2 < 1 ∨ 1024 < n2)) (vl : Value) (l : List ByteArray) (most : Int) (w : World) (hl : Rd w 1 vl l.length (strs l)) (hm : l.length ≤ 300) :
    Calls Try.prog 4 #[.int .i64 n1, .int .i64 n2, vl, .int .i64 most] w fun e w' => e = .returned (.bool true) ∧ Below w.heap.size w w' := by
  obtain ⟨A, cA, rfl⟩ := hl.shape
  clear hl
  have HN := hide hn
  clear hn
  go_enter Try.func4, Try.ntmps4
  go_wp2_with fail
  refine (new_any n1 _).mono ?_
  rintro e w1 ⟨v1, k1, rfl, hk1, hk1', hb1⟩
  go_wp2_with fail
  refine (new_any n2 _).mono ?_
  rintro e w2 ⟨v2, k2, rfl, hk2, hk2', hb2⟩
  have hk : k1 = 1 ∨ (k1 = 0 ∧ k2 = 1) := by
    rcases HN.out with h | h
    · exact .inl (hk1' h)
    · rcases hk1 with e | e
      · exact .inr ⟨e, hk2' h⟩
      · exact .inl e
  clear hk1 hk1' hk2 hk2'
  have hb : Below w.heap.size w w2 := hb1.trans (hb2.mono hb1.size)
  have hs := hb.size
  rcases hk with rfl | ⟨rfl, rfl⟩
  all_goals
    go_wp2_with fail
    refine (wakes_any _).mono ?_
    rintro e w7 ⟨rfl, hb7⟩
    go_wp2_with fail
    go_ret
    exact ⟨rfl, hb.trans (hb7.mono hs)⟩
theorem moves_any (n1 n2 : Int) (vl : Value) (l : List ByteArray) (most : Int) (w : World) (hl : Rd w 1 vl l.length (strs l)) :
    Calls Try.prog 4 #[.int .i64 n1, .int .i64 n2, vl, .int .i64 most] w fun e w' => e = .returned (.bool true) ∧ Below w.heap.size w w' := by
  by_cases hm : l.length ≤ 300
  · by_cases hn : (n1 < 1 ∨ 1024 < n1) ∨ (n2 < 1 ∨ 1024 < n2)
    · exact moves_no n1 n2 hn vl l most w hl hm
    · obtain ⟨m1, rfl⟩ := Int.eq_ofNat_of_zero_le (show 0 ≤ n1 by omega)
      obtain ⟨m2, rfl⟩ := Int.eq_ofNat_of_zero_le (show 0 ≤ n2 by omega)
      exact moves_ok m1 m2 (by omega) (by omega) (by omega) (by omega) vl l most w hl hm
  · exact moves_great n1 n2 vl l most w hl (by omega)

theorem str_of {H : Type} {enc : TypeId × Value → H} {w : World} (n : Nat) (cs : List Value) (y : DataW H × List MemPlace) (h : DataW.trod enc Try.prog w 0 (fun _ => true) true n 9 cs = some y) : ∃ x, cs = [Value.string x] ∧ True := by
  obtain ⟨s, e, _, _⟩ := DataW.trod_string Try.underlying9 h
  exact ⟨s, e, trivial⟩
theorem flat_strs (l : List ByteArray) : l.flatMap (fun x => [Value.string x]) = strs l := by
  induction l with
  | nil => rfl
  | cons x l ih => simp [strs] at ih ⊢; exact ih

set_option maxRecDepth 100000 in
theorem moves_lifted (os : Os) (started : os.Started) (H : Type) (enc : TypeId × Value → H) :
    ReturnsInHanded {} Try.checked os 4 .any (Rows.relayMovesSpec.pre6 enc Try.prog Try.f4 Rows.relayMovesRow.domain false) (Rows.relayMovesSpec.post enc Try.prog Try.f4 false true false false) := by
  refine returnsInHanded_of_change (C := Try.checked) own started (by kernel_rfl) Try.func4
    (ChangeSpec.witness6 (enc := enc) (C := Try.checked) false ⟨#[], #[.int .i64 0, .int .i64 0, .slice none 0 0, .int .i64 0], []⟩ 8 (by kernel_rfl) (by kernel_rfl) (by kernel_rfl) (by kernel_rfl)) ?_
  intro W base args ds gs before hval0 hW hcnd _
  have hval : ∀ (j : Nat) t v, Try.f4.params[j]? = some t → args[j]? = some v → Value.okWide Try.prog W .any base t v := hval0
  have hW' := hW
  obtain ⟨p, q, hA0, hV, rfl, hfz, hnd⟩ := hW
  have hA : DataW.TrodAll enc Try.prog W 0 (fun _ => true) true Try.f4.params.toList args.toList ds p := hA0
  rw [Try.params4] at hA hval
  obtain ⟨v0, vs0, d0, ds0, p0, q0, hargs, rfl, rfl, h0, r0⟩ := trodAll_cons hA
  obtain ⟨v1, vs1, d1, ds1, p1, q1, rfl, rfl, rfl, h1, r1⟩ := trodAll_cons r0
  obtain ⟨v2, vs2, d2, ds2, p2, q2, rfl, rfl, rfl, h2, r2⟩ := trodAll_cons r1
  obtain ⟨v3, vs3, d3, ds3, p3, q3, rfl, rfl, rfl, h3, r3⟩ := trodAll_cons r2
  obtain ⟨rfl, rfl, rfl⟩ := trodAll_nil r3
  obtain rfl : args = #[v0, v1, v2, v3] := by cases args; simp_all
  obtain ⟨l, hl, _, _⟩ := open_rd (f := fun x => [Value.string x]) Try.underlying29 cells9 (by omega) (fun _ => rfl) str_of (hval 2 29 v2 rfl rfl) h2
  rw [flat_strs] at hl
  obtain ⟨n0, rfl, _, _, w0⟩ := open_int Try.underlying3 (hval 0 3 v0 rfl rfl) h0
  obtain ⟨n1, rfl, _, _, w1⟩ := open_int Try.underlying3 (hval 1 3 v1 rfl rfl) h1
  obtain ⟨n3, rfl, _, _, w3⟩ := open_int Try.underlying3 (hval 3 3 v3 rfl rfl) h3
  refine (moves_any n0 n1 v2 l n3 W hl).mono fun e W' ⟨he, bel⟩ => ?_
  subst he
  exact ⟨_, rfl, law_post laidOut (by rw [Try.params4]; intro t ht; simp at ht; rcases ht with rfl | rfl | rfl <;> exact ⟨by kernel_rfl, of_decide_eq_true (by kernel_rfl)⟩) rfl rfl rfl Try.underlying4 hW' bel⟩

theorem moves_over : Rows.relayMovesRow.holds Try.pinned (OpenSpec.ofChange Rows.relayMovesSpec) :=
  OpenClaim.holds_of_wide 4 Try.f4 rfl rfl rfl rfl rfl rfl rfl ⟨rfl, rfl, rfl, rfl, rfl⟩ rfl rfl rfl rfl rfl (by kernel_rfl) Try.func4 (by kernel_rfl)
    (of_decide_eq_true (by kernel_rfl)) (by unfold Func.isWrapper; first | (rw [if_pos (by decide +kernel)]; kernel_rfl) | (rw [if_neg (by decide +kernel)]; exact ⟨rfl, rfl⟩))
    (fun os started H enc _ => moves_lifted os started H enc)

theorem moves_holds : Rows.RelayMovesSaid := moves_over
end Go.Proofs.Ytjgdmdjndkkckaa
