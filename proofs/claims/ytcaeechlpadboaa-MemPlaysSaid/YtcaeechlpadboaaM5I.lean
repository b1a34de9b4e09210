/-
  A table of numbers: what writes it.
-/
import Derived.Test.YtcaeechlpadboaaM4I
namespace Go.Proofs.Ytcaeechlpadboaa.MI
open Go.RowKit Go.Maps

theorem cells_take (xs : List Ent) (q : Nat) : cells (xs.take q) = (cells xs).take (q * 2) := by
  induction xs generalizing q with
  | nil => simp
  | cons x xs ih =>
    cases q with
    | zero => simp
    | succ q => simp [ih q, show (q + 1) * 2 = q * 2 + 1 + 1 by omega]
theorem cells_drop (xs : List Ent) (q : Nat) : cells (xs.drop q) = (cells xs).drop (q * 2) := by
  induction xs generalizing q with
  | nil => simp
  | cons x xs ih =>
    cases q with
    | zero => simp
    | succ q => simp [ih q, show (q + 1) * 2 = q * 2 + 1 + 1 by omega]
theorem cells_set (xs : List Ent) (q : Nat) (y : Ent) (hq : q < xs.length) (hk : (xs[q]).1 = y.1) : cells (xs.set q y) = (cells xs).set (q * 2 + 1) (vv y.2) := by
  induction xs generalizing q with
  | nil => simp at hq
  | cons x xs ih =>
    cases q with
    | zero => simp at hk; simp [hk]
    | succ q => simp at hq hk; simp [ih q hq hk, show (q + 1) * 2 + 1 = q * 2 + 1 + 1 + 1 by omega]
theorem put_has (xs : List Ent) (key : ByteArray) (val : V) (hh : has xs key = true) (hp : pos xs key < xs.length) : put xs key val = xs.set (pos xs key) (key, val) := by
  unfold put
  rw [hh, if_pos rfl, List.set_eq_take_append_cons_drop, if_pos hp]
theorem put_new (xs : List Ent) (key : ByteArray) (val : V) (hh : has xs key = false) : put xs key val = xs.take (pos xs key) ++ (key, val) :: xs.drop (pos xs key) := by
  unfold put
  rw [hh]
  simp

/-- What lies there when a table was written. -/
def aft (base : Nat) (ts : List Thing) (j k T : Nat) (v : Value) (lent : Bool) (xs : List Ent) : List Thing :=
  if lent then row base 89 2 v xs.length (cells xs) :: ts.set j (box T (mobj v false)) else (ts.set j (box T (mobj v false))).set k (row base 89 2 v xs.length (cells xs))

section
variable {base : Nat} {w0 w : World} {ts : List Thing} {j k T : Nat} {v : Value} {lent : Bool} {xs : List Ent}
theorem At.lt (a : At base ts j k T v lent xs) : j < ts.length ∧ k < ts.length := ⟨(List.getElem?_eq_some_iff.1 a.hj).1, (List.getElem?_eq_some_iff.1 a.hk).1⟩
theorem At.jk (a : At base ts j k T v lent xs) (h : Lie base w0 w ts) : j ≠ k := by
  rintro rfl
  have e := a.hj.symm.trans a.hk
  injection e with e
  have h1 := congrArg (fun t => t.foot w T) e
  have h2 : (row base 89 2 v xs.length (cells xs)).foot w T := by rw [← h1]; exact rfl
  have h3 := h.get j a.hk
  have h4 := h.get j a.hj
  exact ownsRow_other h3 h4 (fun cur fz e2 => by injection e2 with _ e3 _; cases e3) h2

/-- own, whoever may go over it. -/
theorem own_any (a : At base ts j k T v lent xs) (h : Lie base w0 w ts) : Calls Try.prog 56 #[pt T] w fun e w' => e = .returned (.tuple #[]) ∧
    ∃ ts' j' k' v', At base ts' j' k' T v' false xs ∧ Hid (Lie base w0 w' ts') ∧ ∀ v'' xs'', (ts'.set j' (box T (mobj v'' false))).set k' (row base 89 2 v'' xs''.length (cells xs'')) = aft base ts j k T v'' lent xs'' := by
  cases lent with
  | false =>
    refine (own_stay a h).mono ?_
    rintro e w1 ⟨rfl, H⟩
    exact ⟨rfl, ts, j, k, v, a, H, fun _ _ => rfl⟩
  | true =>
    refine (own_new a h).mono ?_
    rintro e w1 ⟨rfl, v', H⟩
    refine ⟨rfl, _, j + 1, 0, v', ⟨?_, rfl, a.hs, a.hn⟩, H, fun v'' xs'' => ?_⟩
    · simp [a.lt.1]
    · simp [aft]

set_option maxRecDepth 100000 in
theorem set_nil (key : ByteArray) (val : V) (w : World) : Calls Try.prog 21 #[.pointer none, .string key, vv val] w (Same (.bool false) w) := by
  go_enter Try.func21, Try.ntmps21
  go_wp2_with fail
  go_ret
  exact ⟨rfl, Turn.refl _ w⟩
set_option maxRecDepth 100000 in
set_option maxHeartbeats 2000000 in
theorem set_any (key : ByteArray) (val : V) (a : At base ts j k T v lent xs) (h : Lie base w0 w ts) (hn1 : xs.length < 100000) :
    Calls Try.prog 21 #[pt T, .string key, vv val] w fun e w' => e = .returned (.bool (!has xs key)) ∧ ∃ v', Hid (Lie base w0 w' (aft base ts j k T v' lent (put xs key val))) := by
  have HF := hide (find_any key a h)
  have AA := hide a
  by_cases hh : has xs key = true
  · obtain ⟨hp, hx⟩ := (has_pos xs key a.hs).1 hh
    have HH := hide hh
    have HX := hide hx
    have HP := hide (put_has xs key val hh hp)
    clear a h hh hx
    go_enter Try.func21, Try.ntmps21
    go_wp2_with fail
    refine HF.out.mono ?_
    rintro e w1 ⟨rfl, H1⟩
    rw [HH.out]
    go_wp2_with fail
    refine (own_any AA.out H1.out).mono ?_
    rintro e w2 ⟨rfl, ts', j', k', v', a', H2, haft⟩
    have HA := hide haft
    have A2 := hide a'
    obtain ⟨A, c, rfl, hr⟩ := a'.rd H2.out
    obtain ⟨c0, c1, f0, f1⟩ := mcells (H2.out.get j' a'.hj)
    have hown := H2.out.get k' a'.hk
    obtain ⟨g, rfl⟩ : ∃ g, A = some ⟨g, 0, none⟩ := by
      rcases hown.2 with ⟨h5, h6⟩ | ⟨g, cap, cur, h5, _⟩
      · omega
      · injection h5 with h6; exact ⟨g, h6⟩
    obtain ⟨d1, g1⟩ := own_cell hown (pos xs key * 2 + 1) (vv (xs[pos xs key]).2) (by rw [flat_at cl_len xs _ 1 hp (by omega)]; rfl)
    have hset := own_setCell hown (pos xs key * 2 + 1) (vv val)
    have tS : Turn (fun b => (Value.slice (some ⟨g, 0, none⟩) xs.length c).ownBlock = some b) w2 (w2.setCell ⟨g, pos xs key * 2 + 1, none⟩ (vv val)) := ((Turn.refl (· = g) w2).setCell (p := ⟨g, pos xs key * 2 + 1, none⟩) (fun _ => rfl) _).mono (fun b _ e => by rw [e]; rfl)
    have hL : (xs.set (pos xs key) (key, val)).length = xs.length := List.length_set
    have hC := cells_set xs (pos xs key) (key, val) hp HX.out
    have fin : Hid (Lie base w0 (w2.setCell ⟨g, pos xs key * 2 + 1, none⟩ (vv val)) (aft base ts j k T (.slice (some ⟨g, 0, none⟩) xs.length c) lent (put xs key val))) := hide (by
      rw [HP.out, ← HA.out, hL, hC]
      have h3 := H2.out.step k' (t' := row base 89 2 (.slice (some ⟨g, 0, none⟩) xs.length c) xs.length ((cells xs).set (pos xs key * 2 + 1) (vv val))) a'.hk tS hset (fun b hb => .inl hb)
      have h4 : ts'.set j' (box T (mobj (.slice (some ⟨g, 0, none⟩) xs.length c) false)) = ts' := set_same a'.hj
      rw [h4]
      exact h3)
    clear haft hr hown hset tS hL hC a'
    generalize pos xs key = q at *
    go_wp2_with fail
    go_ret
    exact ⟨by rw [HH.out]; rfl, _, fin⟩
  · have HH := hide (Bool.eq_false_iff.2 hh)
    have hpl := pos_le xs key
    have HP := hide (put_new xs key val HH.out)
    clear a h hh
    go_enter Try.func21, Try.ntmps21
    go_wp2_with fail
    refine HF.out.mono ?_
    rintro e w1 ⟨rfl, H1⟩
    rw [HH.out]
    go_wp2_with fail
    refine (own_any AA.out H1.out).mono ?_
    rintro e w2 ⟨rfl, ts', j', k', v', a', H2, haft⟩
    have HA := hide haft
    have A2 := hide a'
    obtain ⟨A, c, rfl, hr⟩ := a'.rd H2.out
    obtain ⟨c0, c1, f0, f1⟩ := mcells (H2.out.get j' a'.hj)
    obtain ⟨W, hW⟩ : ∃ W, W = w2.alloc (.cells #[.string key, vv val] 89) := ⟨_, rfl⟩
    have tW : Turn (fun _ => False) w2 W := by rw [hW]; exact (Turn.refl _ w2).alloc _
    have hvW : W.heap[w2.heap.size]? = some (.cells #[.string key, vv val] 89 (0, 0)) := by rw [hW]; exact heap_alloc_new w2 _
    have hown := ownsRow_turn (H2.out.get k' a'.hk) tW (fun _ _ h => h)
    have hne : (Value.slice A xs.length c).ownBlock ≠ some w2.heap.size := fun e => by
      have := (ownsRow_base (H2.out.get k' a'.hk) e).2
      omega
    have hins := ins_any base (.slice A xs.length c) xs.length (pos xs key) (cells xs) w2.heap.size (.string key) (vv val) W hown (cells_one xs) rfl rfl hpl (by omega) hvW hne (by rw [hW]; have := H2.out.base_le; simp; omega)
    have HI := hide hins
    have HWW := hide hW
    have H3 := hide (H2.out.stay tW)
    clear haft hr a' hown hne hins hvW tW hW
    go_wp2_with fail
    rw [← HWW.out]
    refine HI.out.mono ?_
    rintro e w3 ⟨v3, rfl, hI⟩
    obtain ⟨A3, c3, rfl⟩ := (Rd.of_own hI.own).shape
    have hC : cells (put xs key val) = (cells xs).take (pos xs key * 2) ++ [.string key, vv val] ++ (cells xs).drop (pos xs key * 2) := by
      rw [HP.out, show cells (xs.take (pos xs key) ++ (key, val) :: xs.drop (pos xs key)) = cells (xs.take (pos xs key)) ++ ([.string key, vv val] ++ cells (xs.drop (pos xs key))) by simp, cells_take, cells_drop, List.append_assoc]
    have hL : (put xs key val).length = xs.length + 1 := by rw [put_length xs key val AA.out.hs, HH.out]; rfl
    have h4 := H3.out.step k' (t' := row base 89 2 (.slice A3 (xs.length + 1) c3) (put xs key val).length (cells (put xs key val))) A2.out.hk hI.turn (by rw [hL, hC]; exact hI.own) (fun b hb => hI.new b hb)
    have hjk := A2.out.jk H2.out
    have hj4 : (ts'.set k' (row base 89 2 (.slice A3 (xs.length + 1) c3) (put xs key val).length (cells (put xs key val))))[j']? = some (box T (mobj (.slice A xs.length c) false)) := by rw [List.getElem?_set_ne (fun e => hjk e.symm)]; exact A2.out.hj
    obtain ⟨e0, e1, k0, k1⟩ := mcells (h4.get j' hj4)
    have h5 := h4.setBox j' hj4 0 (.slice A3 (xs.length + 1) c3)
    have fin : Hid (Lie base w0 (w3.setCell ⟨T, 0, none⟩ (.slice A3 (xs.length + 1) c3)) (aft base ts j k T (.slice A3 (xs.length + 1) c3) lent (put xs key val))) := hide (by
      rw [← HA.out, List.set_comm _ _ hjk]
      simpa using h5)
    clear hI hC hL h4 hjk hj4 h5 c0 c1 f0 f1
    go_wp2_with fail
    go_ret
    exact ⟨by rw [HH.out]; rfl, _, fin⟩
end
end Go.Proofs.Ytcaeechlpadboaa.MI
