/-
  RelayNone: for every number and every text the statement returns true, and its arguments read as they did. No condition.
-/
import Derived.Test.YtjgdmdjndkkckaaEither
import Derived.Test.YtjgdmdjndkkckaaMovesRow
namespace Go.Proofs.Ytjgdmdjndkkckaa
open Go.ChangeShapes Go.WideShapes Go.ChangeAt Go.RowKit Go.Conc
open Go.ChangeMaps (open_string)

theorem NoBox.below {w w' : World} {p : Option Addr} (h : NoBox w p) (hb : Below w.heap.size w w') : NoBox w' p := by
  rcases h with rfl | ⟨b, rfl, h⟩
  · exact .inl rfl
  · exact .inr ⟨b, rfl, (hb.block b (Array.getElem?_eq_some_iff.1 h).1).trans h⟩

set_option maxRecDepth 100000 in
set_option maxHeartbeats 2000000 in
theorem none_any (n : Int) (s : ByteArray) (w : World) :
    Calls Try.prog 6 #[.int .i64 n, .string s] w fun e w' => e = .returned (.bool true) ∧ Below w.heap.size w w' := by
  go_enter Try.func6, Try.ntmps6
  go_wp2_with fail
  obtain ⟨W, hW⟩ : ∃ W, W = (w.alloc (.cells #[.chan none] 51)).alloc (.cells #[.pointer none, .pointer (some ⟨w.heap.size, 0, none⟩)] 25) := ⟨_, rfl⟩
  rw [← hW]
  have z1 : NoBox W (some ⟨w.heap.size, 0, none⟩) := .inr ⟨_, rfl, by rw [hW, Below.heap_alloc _ _ _ (by simp)]; exact heap_alloc_new w _⟩
  have z0 : NoBox W none := .inl rfl
  have c0 : W.cell? ⟨w.heap.size + 1, 0, none⟩ = some (.pointer none) := by rw [hW]; simp
  have c1 : W.cell? ⟨w.heap.size + 1, 1, none⟩ = some (.pointer (some ⟨w.heap.size, 0, none⟩)) := by rw [hW]; simp
  have hbel : Below w.heap.size w W := by rw [hW]; exact ((Below.refl _ w).alloc (Nat.le_refl _) _).alloc (by simp) _
  clear hW
  generalize w.heap.size + 1 = B at *
  refine wp_loop_rounds 3 ?_
  rw [rounds_succ]
  go_wp2_with fail
  refine (put_nobox z0 s).mono ?_
  rintro e w' ⟨rfl, rfl⟩
  go_wp2_with fail
  refine (take_nobox z0).mono ?_
  rintro e w' ⟨rfl, rfl⟩
  go_wp2_with fail
  refine (len_nobox z0).mono ?_
  rintro e w' ⟨rfl, rfl⟩
  go_wp2_with fail
  refine (room_nobox z0).mono ?_
  rintro e w' ⟨rfl, rfl⟩
  go_wp2_with fail
  refine (all_nobox z0).mono ?_
  rintro e w' ⟨rfl, rfl⟩
  go_wp2_with fail
  rw [rounds_succ]
  go_wp2_with fail
  refine (put_nobox z1 s).mono ?_
  rintro e w' ⟨rfl, rfl⟩
  go_wp2_with fail
  refine (take_nobox z1).mono ?_
  rintro e w' ⟨rfl, rfl⟩
  go_wp2_with fail
  refine (len_nobox z1).mono ?_
  rintro e w' ⟨rfl, rfl⟩
  go_wp2_with fail
  refine (room_nobox z1).mono ?_
  rintro e w' ⟨rfl, rfl⟩
  go_wp2_with fail
  refine (all_nobox z1).mono ?_
  rintro e w' ⟨rfl, rfl⟩
  go_wp2_with fail
  rw [rounds_succ]
  go_wp2_with fail
  clear c0 c1
  have hs0 := hbel.size
  refine (new_box 1 (by omega) (by omega) _).mono ?_
  rintro e w1 ⟨rfl, hn⟩
  obtain ⟨hb1, hbel1, hnb1, hnc1⟩ := hn
  rw [show (1 : Int).toNat = 1 from rfl] at hb1
  have z1' : NoBox w1 (some ⟨w.heap.size, 0, none⟩) := z1.below hbel1
  generalize W.heap.size + 1 = b at *
  have z0' : NoBox w1 none := .inl rfl
  go_wp2_with fail
  refine (put_ok b _ 1 [] s _ hb1 (by simp)).mono ?_
  rintro e w2 ⟨rfl, h2⟩
  have hb2 := h2.box
  rw [List.nil_append] at hb2
  have hbel2 : Below W.heap.size W w2 := hbel1.trans (h2.turn.below hbel1.size (by intro k hk; omega))
  have z2 : NoBox w2 (some ⟨w.heap.size, 0, none⟩) := z1.below hbel2
  go_wp2_with fail
  refine (move_to_no hb2 (.inl rfl) n).mono ?_
  rintro e w' ⟨rfl, rfl⟩
  go_wp2_with fail
  refine (move_from_no z2 _ n).mono ?_
  rintro e w' ⟨rfl, rfl⟩
  go_wp2_with fail
  refine (either_none (.inl rfl) z2).mono ?_
  rintro e w' ⟨rfl, rfl⟩
  go_wp2_with fail
  refine (either_second_no (.inl rfl) hb2).mono ?_
  rintro e w3 ⟨rfl, h3⟩
  have hbel3 : Below W.heap.size W w3 := hbel2.trans (h3.turn.below hbel2.size (by intro k hk; omega))
  have z3 : NoBox w3 (some ⟨w.heap.size, 0, none⟩) := z1.below hbel3
  go_wp2_with fail
  refine (either_empty h3.box (.inl z3)).mono ?_
  rintro e w' ⟨rfl, rfl⟩
  go_wp2_with fail
  refine (wakes_any _).mono ?_
  rintro e w7 ⟨rfl, hb7⟩
  go_wp2_with fail
  go_ret
  have hs3 := hbel3.size
  exact ⟨rfl, (hbel.trans (hbel3.mono hs0)).trans (hb7.mono (by omega))⟩

set_option maxRecDepth 100000 in
theorem none_lifted (os : Os) (started : os.Started) (H : Type) (enc : TypeId × Value → H) :
    ReturnsInHanded {} Try.checked os 6 .any (Rows.relayNoneSpec.pre6 enc Try.prog Try.f6 Rows.relayNoneRow.domain false) (Rows.relayNoneSpec.post enc Try.prog Try.f6 false true false false) := by
  refine returnsInHanded_of_change (C := Try.checked) own started (by kernel_rfl) Try.func6
    (ChangeSpec.witness6 (enc := enc) (C := Try.checked) false ⟨#[], #[.int .i64 0, .string ⟨#[]⟩], []⟩ 8 (by kernel_rfl) (by kernel_rfl) (by kernel_rfl) (by kernel_rfl)) ?_
  intro W base args ds gs before hval0 hW hcnd _
  have hval : ∀ (j : Nat) t v, Try.f6.params[j]? = some t → args[j]? = some v → Value.okWide Try.prog W .any base t v := hval0
  have hW' := hW
  obtain ⟨p, q, hA0, hV, rfl, hfz, hnd⟩ := hW
  have hA : DataW.TrodAll enc Try.prog W 0 (fun _ => true) true Try.f6.params.toList args.toList ds p := hA0
  rw [Try.params6] at hA hval
  obtain ⟨v0, vs0, d0, ds0, p0, q0, hargs, rfl, rfl, h0, r0⟩ := trodAll_cons hA
  obtain ⟨v1, vs1, d1, ds1, p1, q1, rfl, rfl, rfl, h1, r1⟩ := trodAll_cons r0
  obtain ⟨rfl, rfl, rfl⟩ := trodAll_nil r1
  obtain rfl : args = #[v0, v1] := by cases args; simp_all
  obtain ⟨n0, rfl, _, _, w0⟩ := open_int Try.underlying3 (hval 0 3 v0 rfl rfl) h0
  obtain ⟨s1, rfl, _, _, w1⟩ := open_string Try.underlying9 (hval 1 9 v1 rfl rfl) h1
  refine (none_any n0 s1 W).mono fun e W' ⟨he, bel⟩ => ?_
  subst he
  exact ⟨_, rfl, law_post laidOut (by rw [Try.params6]; intro t ht; simp at ht; rcases ht with rfl | rfl <;> exact ⟨by kernel_rfl, of_decide_eq_true (by kernel_rfl)⟩) rfl rfl rfl Try.underlying4 hW' bel⟩

theorem none_over : Rows.relayNoneRow.holds Try.pinned (OpenSpec.ofChange Rows.relayNoneSpec) :=
  OpenClaim.holds_of_wide 6 Try.f6 rfl rfl rfl rfl rfl rfl rfl ⟨rfl, rfl, rfl, rfl, rfl⟩ rfl rfl rfl rfl rfl (by kernel_rfl) Try.func6 (by kernel_rfl)
    (of_decide_eq_true (by kernel_rfl)) (by unfold Func.isWrapper; first | (rw [if_pos (by decide +kernel)]; kernel_rfl) | (rw [if_neg (by decide +kernel)]; exact ⟨rfl, rfl⟩))
    (fun os started H enc _ => none_lifted os started H enc)

theorem none_holds : Rows.RelayNoneSaid := none_over
end Go.Proofs.Ytjgdmdjndkkckaa
