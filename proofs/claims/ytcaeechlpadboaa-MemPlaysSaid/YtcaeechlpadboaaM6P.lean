/-
  A table of pairs: Delete, Clear, Twin.
-/
import Derived.Test.YtcaeechlpadboaaM5P
import Derived.Test.YtcaeechlpadboaaRgn
import Derived.RangeFuncNested
import Derived.OwnWalkIn
import Derived.TacticsInMore
import Derived.LoopNIn
import Derived.LoopIn
import Derived.Shelf.Abstract
namespace Go.Proofs.Ytcaeechlpadboaa.MP
open Go.RowKit Go.Maps Go.Shelf

theorem del_has (xs : List Ent) (key : ByteArray) (hh : has xs key = true) : del xs key = xs.take (pos xs key) ++ xs.drop (pos xs key + 1) := by
  unfold del
  rw [hh, if_pos rfl]
theorem del_no (xs : List Ent) (key : ByteArray) (hh : has xs key = false) : del xs key = xs := by
  unfold del
  rw [hh]
  rfl
/-- What lies there when a key was taken away. -/
def aftDel (base : Nat) (ts : List Thing) (j k T : Nat) (v : Value) (lent : Bool) (xs : List Ent) (key : ByteArray) : List Thing :=
  if has xs key then aft base ts j k T v lent (del xs key) else ts

section
variable {base : Nat} {w0 w : World} {ts : List Thing} {j k T : Nat} {v : Value} {lent : Bool} {xs : List Ent}
set_option maxRecDepth 100000 in
theorem delete_nil (key : ByteArray) (w : World) : Calls Try.prog 34 #[.pointer none, .string key] w (Same (.bool false) w) := by
  go_enter Try.func34, Try.ntmps34
  go_wp2_with fail
  refine (find_nil key w).mono ?_
  rintro e w1 ⟨rfl, t1⟩
  have T1 := hide t1
  clear t1
  go_wp2_with fail
  go_ret
  exact ⟨rfl, T1.out⟩
set_option maxRecDepth 100000 in
set_option maxHeartbeats 2000000 in
theorem delete_any (key : ByteArray) (a : At base ts j k T v lent xs) (h : Lie base w0 w ts) :
    Calls Try.prog 34 #[pt T, .string key] w fun e w' => e = .returned (.bool (has xs key)) ∧ ∃ v', Hid (Lie base w0 w' (aftDel base ts j k T v' lent xs key)) := by
  have HF := hide (find_any key a h)
  have AA := hide a
  by_cases hh : has xs key = true
  · obtain ⟨hp, _⟩ := (has_pos xs key a.hs).1 hh
    have HH := hide hh
    have HP := hide (del_has xs key hh)
    have hn := a.hn
    clear a h hh
    go_enter Try.func34, Try.ntmps34
    go_wp2_with fail
    refine HF.out.mono ?_
    rintro e w1 ⟨rfl, H1⟩
    rw [HH.out]
    go_wp2_with fail
    refine (own_any AA.out H1.out).mono ?_
    rintro e w2 ⟨rfl, ts', j', k', v', a', H2, _, haft⟩
    have HA := hide haft
    have A2 := hide a'
    obtain ⟨A, c, rfl, hr⟩ := a'.rd H2.out
    obtain ⟨c0, c1, f0, f1⟩ := mcells (H2.out.get j' a'.hj)
    have hown := H2.out.get k' a'.hk
    obtain ⟨g, rfl⟩ : ∃ g, A = some ⟨g, 0, none⟩ := by
      rcases hown.2 with ⟨h5, h6⟩ | ⟨g, cap, cur, h5, _⟩
      · omega
      · injection h5 with h6; exact ⟨g, h6⟩
    have HD := hide (del_ok base g xs.length c (pos xs key) (cells xs) w2 hown (cells_one xs) hp)
    clear haft hr a' hown
    go_wp2_with fail
    refine HD.out.mono ?_
    rintro e w3 ⟨rfl, hD⟩
    have hC : cells (del xs key) = (cells xs).take (pos xs key * 3) ++ (cells xs).drop ((pos xs key + 1) * 3) := by
      rw [HP.out, show cells (xs.take (pos xs key) ++ xs.drop (pos xs key + 1)) = cells (xs.take (pos xs key)) ++ cells (xs.drop (pos xs key + 1)) by simp, cells_take, cells_drop]
    have hL : (del xs key).length = xs.length - 1 := by rw [HP.out]; simp; omega
    have h4 := H2.out.step k' (t' := row base 99 3 (.slice (some ⟨g, 0, none⟩) (xs.length - 1) c) (del xs key).length (cells (del xs key))) A2.out.hk (hD.turn.mono (fun b _ e => by rw [e]; rfl)) (by rw [hL, hC]; exact hD.own) (fun b hb => .inl hb)
    have hjk := A2.out.jk H2.out
    have hj4 : (ts'.set k' (row base 99 3 (.slice (some ⟨g, 0, none⟩) (xs.length - 1) c) (del xs key).length (cells (del xs key))))[j']? = some (box T (mobj (.slice (some ⟨g, 0, none⟩) xs.length c) false)) := by rw [List.getElem?_set_ne (fun e => hjk e.symm)]; exact A2.out.hj
    obtain ⟨e0, e1, k0, k1⟩ := mcells (h4.get j' hj4)
    have h5 := h4.setBox j' hj4 0 (.slice (some ⟨g, 0, none⟩) (xs.length - 1) c)
    have fin : Hid (Lie base w0 (w3.setCell ⟨T, 0, none⟩ (.slice (some ⟨g, 0, none⟩) (xs.length - 1) c)) (aftDel base ts j k T (.slice (some ⟨g, 0, none⟩) (xs.length - 1) c) lent xs key)) := hide (by
      unfold aftDel
      rw [HH.out, if_pos rfl, ← HA.out, List.set_comm _ _ hjk]
      simpa using h5)
    clear hD hC hL h4 hjk hj4 h5 c0 c1 f0 f1
    go_wp2_with fail
    go_ret
    exact ⟨by rw [HH.out]; rfl, _, fin⟩
  · have HH := hide (Bool.eq_false_iff.2 hh)
    clear a h hh
    go_enter Try.func34, Try.ntmps34
    go_wp2_with fail
    refine HF.out.mono ?_
    rintro e w1 ⟨rfl, H1⟩
    rw [HH.out]
    go_wp2_with fail
    go_ret
    exact ⟨by rw [HH.out]; rfl, v, hide (by unfold aftDel; rw [HH.out]; exact H1.out)⟩
set_option maxRecDepth 100000 in
theorem clear_nil (w : World) : Calls Try.prog 36 #[.pointer none] w (Same (.tuple #[]) w) := by
  go_enter Try.func36, Try.ntmps36
  go_wp2_with fail
  refine bodyPost_end (results_none rfl _ _ _) rfl ?_
  exact ⟨rfl, Turn.refl _ w⟩
set_option maxRecDepth 100000 in
theorem clear_any (a : At base ts j k T v lent xs) (h : Lie base w0 w ts) : Calls Try.prog 36 #[pt T] w (TL (.tuple #[]) base w0 (row base 99 3 (.slice none 0 0) 0 [] :: ts.set j (box T (mobj (.slice none 0 0) false)))) := by
  obtain ⟨c0, c1, f0, f1⟩ := mcells (h.get j a.hj)
  have h1 := h.setBox j a.hj 0 (.slice none 0 0)
  have hj1 : (ts.set j (box T (mobj (.slice none 0 0) lent)))[j]? = some (box T (mobj (.slice none 0 0) lent)) := List.getElem?_set_self a.lt.1
  have h2 := h1.setBox j hj1 1 (.bool false)
  have h3 := h2.push (t := row base 99 3 (.slice none 0 0) 0 []) (Turn.refl _ _) (World.ownsRow_nil _ _ _ _) (fun b hb => by cases hb)
  have fin : Hid (Lie base w0 ((w.setCell ⟨T, 0, none⟩ (.slice none 0 0)).setCell ⟨T, 1, none⟩ (.bool false)) (row base 99 3 (.slice none 0 0) 0 [] :: ts.set j (box T (mobj (.slice none 0 0) false)))) := hide (by simpa using h3)
  clear h a h1 hj1 h2 h3
  go_enter Try.func36, Try.ntmps36
  go_wp2_with fail
  refine bodyPost_end (results_none rfl _ _ _) rfl ?_
  exact ⟨rfl, fin⟩
set_option maxRecDepth 100000 in
theorem twin_nil (w : World) : Calls Try.prog 32 #[.pointer none] w (Same (.pointer none) w) := by
  go_enter Try.func32, Try.ntmps32
  go_wp2_with fail
  go_ret
  exact ⟨rfl, Turn.refl _ w⟩
set_option maxRecDepth 100000 in
theorem twin_any (a : At base ts j k T v lent xs) (h : Lie base w0 w ts) : Calls Try.prog 32 #[pt T] w fun e w' => ∃ T' v', e = .returned (pt T') ∧ Hid (Lie base w0 w' (row base 99 3 v' xs.length (cells xs) :: box T' (mobj v' false) :: ts)) := by
  obtain ⟨A, c, rfl, hr⟩ := a.rd h
  obtain ⟨c0, c1, f0, f1⟩ := mcells (h.get j a.hj)
  have HC := hide (clone_any _ _ _ w hr (cells_one xs) (by have := a.hn; omega))
  have H := hide h
  clear h a hr
  go_enter Try.func32, Try.ntmps32
  go_wp2_with fail
  refine HC.out.mono ?_
  rintro e w1 ⟨v', rfl, own', t1⟩
  obtain ⟨A', c', rfl⟩ := (Rd.of_own own').shape
  have fin : Hid (Lie base w0 (w1.alloc (mobj (.slice A' xs.length c') false)) (row base 99 3 (.slice A' xs.length c') xs.length (cells xs) :: box w1.heap.size (mobj (.slice A' xs.length c') false) :: ts)) :=
    hide ((H.out.push (t := row base 99 3 (.slice A' xs.length c') xs.length (cells xs)) t1 (ownsRow_low own' H.out.base_le) (fun g hg => (ownsRow_base own' hg).1)).alloc _).swap
  clear own' t1 c0 c1 f0 f1
  go_wp2_with fail
  go_ret
  exact ⟨_, _, rfl, fin⟩
end
end Go.Proofs.Ytcaeechlpadboaa.MP
