/-
  RelayPlays: for every three sizes and every list of acts the statement returns true, and its arguments read as they did. No condition.
-/
import Derived.Test.YtjgdmdjndkkckaaPlays
import Derived.Test.YtjgdmdjndkkckaaOrderRow
namespace Go.Proofs.Ytjgdmdjndkkckaa
open Go.ChangeShapes Go.WideShapes Go.ChangeAt Go.RowKit Go.Conc

theorem plays_great (s0 s1 s2 : Int) (vl : Value) (l : List ActD) (w : World) (hl : Rd w 4 vl l.length (l.flatMap actCells)) (hm : 300 < l.length) :
    Calls Try.prog 5 #[.agg #[.int .i64 s0, .int .i64 s1, .int .i64 s2], vl] w fun e w' => e = .returned (.bool true) ∧ Below w.heap.size w w' := by
  obtain ⟨A, cA, rfl⟩ := hl.shape
  clear hl
  go_enter Try.func5, Try.ntmps5
  go_wp2_with fail
  refine (great_any _ _ _ _).mono ?_
  rintro e w' ⟨rfl, rfl⟩
  go_wp2_with fail
  refine (wakes_any _).mono ?_
  rintro e w7 ⟨rfl, hb7⟩
  go_wp2_with fail
  go_ret
  exact ⟨rfl, ((Below.refl _ w).alloc (Nat.le_refl _) _).trans (hb7.mono (by simp))⟩
theorem plays_any (s0 s1 s2 : Int) (vl : Value) (l : List ActD) (w : World) (hl : Rd w 4 vl l.length (l.flatMap actCells)) :
    Calls Try.prog 5 #[.agg #[.int .i64 s0, .int .i64 s1, .int .i64 s2], vl] w fun e w' => e = .returned (.bool true) ∧ Below w.heap.size w w' := by
  by_cases hm : l.length ≤ 300
  · exact plays_ok s0 s1 s2 vl l w hl hm
  · exact plays_great s0 s1 s2 vl l w hl (by omega)

theorem cells41 : Try.prog.cellsOf 41 = 3 := by kernel_rfl
theorem sizes_of {H : Type} {enc : TypeId × Value → H} {w : World} {r : Reach} {base : Nat} {v : Value} {d : DataW H} {p : List MemPlace} (hv : Value.okWide Try.prog w r base 41 v) (h : DataW.Trod enc Try.prog w 0 (fun _ => true) true 41 v d p) :
    ∃ s0 s1 s2 : Int, v = .agg #[.int .i64 s0, .int .i64 s1, .int .i64 s2] := by
  simp only [Value.okWide, Try.underlying41] at hv
  obtain ⟨cs, rfl, hsz, _⟩ := hv
  obtain ⟨fuel, hf⟩ := h
  obtain ⟨xs, m, _, _, hlen, hxl, hx⟩ := DataW.trod_array Try.underlying41 hf
  obtain ⟨l⟩ := cs
  rw [cells41] at hsz
  match l, hsz, xs, hxl with
  | [a0, a1, a2], _, [y0, y1, y2], _ =>
    have f0 := hx 0 (by omega)
    have f1 := hx 1 (by omega)
    have f2 := hx 2 (by omega)
    simp [cells3, Value.cells] at f0 f1 f2
    obtain ⟨n0, e0, _, _⟩ := DataW.trod_int Try.underlying3 f0
    obtain ⟨n1, e1, _, _⟩ := DataW.trod_int Try.underlying3 f1
    obtain ⟨n2, e2, _, _⟩ := DataW.trod_int Try.underlying3 f2
    simp at e0 e1 e2
    subst e0 e1 e2
    exact ⟨n0, n1, n2, rfl⟩

set_option maxRecDepth 100000 in
theorem plays_lifted (os : Os) (started : os.Started) (H : Type) (enc : TypeId × Value → H) :
    ReturnsInHanded {} Try.checked os 5 .any (Rows.relayPlaysSpec.pre6 enc Try.prog Try.f5 Rows.relayPlaysRow.domain false) (Rows.relayPlaysSpec.post enc Try.prog Try.f5 false true false false) := by
  refine returnsInHanded_of_change (C := Try.checked) own started (by kernel_rfl) Try.func5
    (ChangeSpec.witness6 (enc := enc) (C := Try.checked) false ⟨#[], #[.agg #[.int .i64 0, .int .i64 0, .int .i64 0], .slice none 0 0], []⟩ 8 (by kernel_rfl) (by kernel_rfl) (by kernel_rfl) (by kernel_rfl)) ?_
  intro W base args ds gs before hval0 hW hcnd _
  have hval : ∀ (j : Nat) t v, Try.f5.params[j]? = some t → args[j]? = some v → Value.okWide Try.prog W .any base t v := hval0
  have hW' := hW
  obtain ⟨p, q, hA0, hV, rfl, hfz, hnd⟩ := hW
  have hA : DataW.TrodAll enc Try.prog W 0 (fun _ => true) true Try.f5.params.toList args.toList ds p := hA0
  rw [Try.params5] at hA hval
  obtain ⟨v0, vs0, d0, ds0, p0, q0, hargs, rfl, rfl, h0, r0⟩ := trodAll_cons hA
  obtain ⟨v1, vs1, d1, ds1, p1, q1, rfl, rfl, rfl, h1, r1⟩ := trodAll_cons r0
  obtain ⟨rfl, rfl, rfl⟩ := trodAll_nil r1
  obtain rfl : args = #[v0, v1] := by cases args; simp_all
  obtain ⟨l, hl, _, _⟩ := open_rd Try.underlying22 cells31 (by omega) actCells_len act_of (hval 1 22 v1 rfl rfl) h1
  obtain ⟨s0, s1, s2, rfl⟩ := sizes_of (hval 0 41 v0 rfl rfl) h0
  refine (plays_any s0 s1 s2 v1 l W hl).mono fun e W' ⟨he, bel⟩ => ?_
  subst he
  exact ⟨_, rfl, law_post laidOut (by rw [Try.params5]; intro t ht; simp at ht; rcases ht with rfl | rfl <;> exact ⟨by kernel_rfl, of_decide_eq_true (by kernel_rfl)⟩) rfl rfl rfl Try.underlying4 hW' bel⟩

theorem plays_over : Rows.relayPlaysRow.holds Try.pinned (OpenSpec.ofChange Rows.relayPlaysSpec) :=
  OpenClaim.holds_of_wide 5 Try.f5 rfl rfl rfl rfl rfl rfl rfl ⟨rfl, rfl, rfl, rfl, rfl⟩ rfl rfl rfl rfl rfl (by kernel_rfl) Try.func5 (by kernel_rfl)
    (of_decide_eq_true (by kernel_rfl)) (by unfold Func.isWrapper; first | (rw [if_pos (by decide +kernel)]; kernel_rfl) | (rw [if_neg (by decide +kernel)]; exact ⟨rfl, rfl⟩))
    (fun os started H enc _ => plays_lifted os started H enc)

theorem plays_holds : Rows.RelayPlaysSaid := plays_over
end Go.Proofs.Ytjgdmdjndkkckaa
