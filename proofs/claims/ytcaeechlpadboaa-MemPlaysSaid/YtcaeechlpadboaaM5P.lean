/-
  A table of pairs: what writes it.
-/
import Derived.Test.YtcaeechlpadboaaM4P
import Derived.StillTailTactics
import Derived.Deep.RegionHeld3
namespace Go.Proofs.Ytcaeechlpadboaa.MP
open Go.RowKit Go.Maps

theorem cells_take (xs : List Ent) (q : Nat) : cells (xs.take q) = (cells xs).take (q * 3) := by
  induction xs generalizing q with
  | nil => simp
  | cons x xs ih =>
    cases q with
    | zero => simp
    | succ q => simp [ih q, show (q + 1) * 3 = q * 3 + 1 + 1 + 1 by omega]
theorem cells_drop (xs : List Ent) (q : Nat) : cells (xs.drop q) = (cells xs).drop (q * 3) := by
  induction xs generalizing q with
  | nil => simp
  | cons x xs ih =>
    cases q with
    | zero => simp
    | succ q => simp [ih q, show (q + 1) * 3 = q * 3 + 1 + 1 + 1 by omega]
theorem cells_set (xs : List Ent) (q : Nat) (y : Ent) (hq : q < xs.length) (hk : (xs[q]).1 = y.1) : cells (xs.set q y) = ((cells xs).set (q * 3 + 1) (v1 y.2)).set (q * 3 + 2) (v2 y.2) := by
  induction xs generalizing q with
  | nil => simp at hq
  | cons x xs ih =>
    cases q with
    | zero => simp at hk; simp [hk]
    | succ q => simp at hq hk; simp [ih q hq hk, show (q + 1) * 3 + 1 = q * 3 + 1 + 1 + 1 + 1 by omega, show (q + 1) * 3 + 2 = q * 3 + 2 + 1 + 1 + 1 by omega]
theorem put_has (xs : List Ent) (key : ByteArray) (val : V) (hh : has xs key = true) (hp : pos xs key < xs.length) : put xs key val = xs.set (pos xs key) (key, val) := by
  unfold put
  rw [hh, if_pos rfl, List.set_eq_take_append_cons_drop, if_pos hp]
theorem put_new (xs : List Ent) (key : ByteArray) (val : V) (hh : has xs key = false) : put xs key val = xs.take (pos xs key) ++ (key, val) :: xs.drop (pos xs key) := by
  unfold put
  rw [hh]
  simp

/-- What lies there when a table was written. -/
def aft (base : Nat) (ts : List Thing) (j k T : Nat) (v : Value) (lent : Bool) (xs : List Ent) : List Thing :=
  if lent then row base 99 3 v xs.length (cells xs) :: ts.set j (box T (mobj v false)) else (ts.set j (box T (mobj v false))).set k (row base 99 3 v xs.length (cells xs))

section
variable {base : Nat} {w0 w : World} {ts : List Thing} {j k T : Nat} {v : Value} {lent : Bool} {xs : List Ent}
theorem At.lt (a : At base ts j k T v lent xs) : j < ts.length ∧ k < ts.length := ⟨(List.getElem?_eq_some_iff.1 a.hj).1, (List.getElem?_eq_some_iff.1 a.hk).1⟩
theorem At.jk (a : At base ts j k T v lent xs) (h : Lie base w0 w ts) : j ≠ k := by
  rintro rfl
  have e := a.hj.symm.trans a.hk
  injection e with e
  have h1 := congrArg (fun t => t.foot w T) e
  have h2 : (row base 99 3 v xs.length (cells xs)).foot w T := by rw [← h1]; exact rfl
  have h3 := h.get j a.hk
  have h4 := h.get j a.hj
  exact ownsRow_other h3 h4 (fun cur fz e2 => by injection e2 with _ e3 _; cases e3) h2

/-- own, whoever may go over it. -/
theorem own_any (a : At base ts j k T v lent xs) (h : Lie base w0 w ts) : Calls Try.prog 61 #[pt T] w fun e w' => e = .returned (.tuple #[]) ∧
    ∃ ts' j' k' v', At base ts' j' k' T v' false xs ∧ Hid (Lie base w0 w' ts') ∧ Hid (∀ i t, ts[i]? = some t → i ≠ j → ∃ i' : Nat, ts'[i']? = some t) ∧ ∀ v'' xs'', (ts'.set j' (box T (mobj v'' false))).set k' (row base 99 3 v'' xs''.length (cells xs'')) = aft base ts j k T v'' lent xs'' := by
  cases lent with
  | false =>
    refine (own_stay a h).mono ?_
    rintro e w1 ⟨rfl, H⟩
    exact ⟨rfl, ts, j, k, v, a, H, hide (fun i t hi _ => ⟨i, hi⟩), fun _ _ => rfl⟩
  | true =>
    refine (own_new a h).mono ?_
    rintro e w1 ⟨rfl, v', H⟩
    refine ⟨rfl, _, j + 1, 0, v', ⟨?_, rfl, a.hs, a.hn⟩, H, hide (fun i t hi hij => ⟨i + 1, by rw [List.getElem?_cons_succ, List.getElem?_set_ne (fun e => hij e.symm)]; exact hi⟩), fun v'' xs'' => ?_⟩
    · simp [a.lt.1]
    · simp [aft]

set_option maxRecDepth 100000 in
set_option maxHeartbeats 2000000 in
theorem set_any (key : ByteArray) (val : V) (a : At base ts j k T v lent xs) (h : Lie base w0 w ts) (hn1 : xs.length < 100000) :
    Calls Try.prog 31 #[pt T, .string key, vv val] w fun e w' => e = .returned (.bool (!has xs key)) ∧ ∃ v', Hid (Lie base w0 w' (aft base ts j k T v' lent (put xs key val))) := by
  have h1 : Lie base w0 (w.alloc (.cells #[v1 val, v2 val] 60)) (rbx w.heap.size val :: ts) := h.alloc _
  have a1 : At base (rbx w.heap.size val :: ts) (j + 1) (k + 1) T v lent xs := ⟨a.hj, a.hk, a.hs, a.hn⟩
  have HF := hide (find_any key a1 h1)
  have AA := hide a1
  obtain ⟨r, hr0⟩ : ∃ r, r = w.heap.size := ⟨_, rfl⟩
  have HR0 := hide hr0
  rw [← hr0] at HF AA
  have OUT : Hid (∀ W v' zs, Lie base w0 W (aft base (rbx r val :: ts) (j + 1) (k + 1) T v' lent zs) → Lie base w0 W (aft base ts j k T v' lent zs)) := hide (fun W v' zs hW => by
    cases lent with
    | false => exact hW.pop
    | true => exact hW.erase 1)
  clear h1 a1 hr0
  by_cases hh : has xs key = true
  · obtain ⟨hp, hx⟩ := (has_pos xs key a.hs).1 hh
    have HH := hide hh
    have HX := hide hx
    have HP := hide (put_has xs key val hh hp)
    clear a h hh hx
    go_enter Try.func31, Try.ntmps31
    go_wp2_with fail
    rw [← HR0.out]
    refine HF.out.mono ?_
    rintro e w1 ⟨rfl, H1⟩
    rw [HH.out]
    go_wp2_with fail
    refine (own_any AA.out H1.out).mono ?_
    rintro e w2 ⟨rfl, ts', j', k', v', a', H2, HM, haft⟩
    obtain ⟨i', hi'⟩ := HM.out 0 _ rfl (by omega)
    obtain ⟨x0, x1, x2, x3⟩ := cell2 (H2.out.get i' hi')
    have HA := hide haft
    have A2 := hide a'
    obtain ⟨A, c, rfl, hr⟩ := a'.rd H2.out
    obtain ⟨c0, c1, f0, f1⟩ := mcells (H2.out.get j' a'.hj)
    obtain ⟨wd, hwd⟩ : ∃ wd : World, wd = w2.drew := ⟨_, rfl⟩
    have H3 : Hid (Lie base w0 wd ts') := hide (by rw [hwd]; exact H2.out.drew)
    have HWD := hide hwd
    have hown := H3.out.get k' a'.hk
    obtain ⟨g, rfl⟩ : ∃ g, A = some ⟨g, 0, none⟩ := by
      rcases hown.2 with ⟨h5, h6⟩ | ⟨g, cap, cur, h5, _⟩
      · omega
      · injection h5 with h6; exact ⟨g, h6⟩
    obtain ⟨d1, g1⟩ := own_cell hown (pos xs key * 3 + 1) (v1 (xs[pos xs key]).2) (by rw [flat_at cl_len xs _ 1 hp (by omega)]; rfl)
    obtain ⟨d2, g2⟩ := own_cell hown (pos xs key * 3 + 2) (v2 (xs[pos xs key]).2) (by rw [flat_at cl_len xs _ 2 hp (by omega)]; rfl)
    have hset := own_setCell (own_setCell hown (pos xs key * 3 + 1) (v1 val)) (pos xs key * 3 + 2) (v2 val)
    have tS : Turn (fun b => (Value.slice (some ⟨g, 0, none⟩) xs.length c).ownBlock = some b) wd ((wd.setCell ⟨g, pos xs key * 3 + 1, none⟩ (v1 val)).setCell ⟨g, pos xs key * 3 + 2, none⟩ (v2 val)) := (((Turn.refl (· = g) wd).setCell (p := ⟨g, pos xs key * 3 + 1, none⟩) (fun _ => rfl) _).setCell (p := ⟨g, pos xs key * 3 + 2, none⟩) (fun _ => rfl) _).mono (fun b _ e => by rw [e]; rfl)
    have hL : (xs.set (pos xs key) (key, val)).length = xs.length := List.length_set
    have hC := cells_set xs (pos xs key) (key, val) hp HX.out
    have fin : Hid (Lie base w0 ((wd.setCell ⟨g, pos xs key * 3 + 1, none⟩ (v1 val)).setCell ⟨g, pos xs key * 3 + 2, none⟩ (v2 val)) (aft base ts j k T (.slice (some ⟨g, 0, none⟩) xs.length c) lent (put xs key val))) := hide (by
      refine OUT.out _ _ _ ?_
      rw [HP.out, ← HA.out, hL, hC]
      have h3 := H3.out.step k' (t' := row base 99 3 (.slice (some ⟨g, 0, none⟩) xs.length c) xs.length (((cells xs).set (pos xs key * 3 + 1) (v1 val)).set (pos xs key * 3 + 2) (v2 val))) a'.hk tS hset (fun b hb => .inl hb)
      have h4 : ts'.set j' (box T (mobj (.slice (some ⟨g, 0, none⟩) xs.length c) false)) = ts' := set_same a'.hj
      rw [h4]
      exact h3)
    clear haft hr hown hset tS hL hC a' hwd
    generalize pos xs key = q at *
    go_wp2_with fail
    go_still_tail 8, (by kernel_rfl)
    change wpList _ _ _ _ _ w2.drew
    rw [← HWD.out]
    go_wp2_with fail
    go_ret
    exact ⟨by rw [HH.out]; rfl, _, fin⟩
  · have HH := hide (Bool.eq_false_iff.2 hh)
    have hpl := pos_le xs key
    have HP := hide (put_new xs key val HH.out)
    clear a h hh
    go_enter Try.func31, Try.ntmps31
    go_wp2_with fail
    rw [← HR0.out]
    refine HF.out.mono ?_
    rintro e w1 ⟨rfl, H1⟩
    rw [HH.out]
    go_wp2_with fail
    refine (own_any AA.out H1.out).mono ?_
    rintro e w2 ⟨rfl, ts', j', k', v', a', H2, HM, haft⟩
    obtain ⟨i', hi'⟩ := HM.out 0 _ rfl (by omega)
    obtain ⟨x0, x1, x2, x3⟩ := cell2 (H2.out.get i' hi')
    have HA := hide haft
    have A2 := hide a'
    obtain ⟨A, c, rfl, hr⟩ := a'.rd H2.out
    obtain ⟨c0, c1, f0, f1⟩ := mcells (H2.out.get j' a'.hj)
    obtain ⟨wd, hwd⟩ : ∃ wd : World, wd = w2.drew := ⟨_, rfl⟩
    have H2d : Lie base w0 wd ts' := by rw [hwd]; exact H2.out.drew
    obtain ⟨c0, c1, f0, f1⟩ := mcells (H2d.get j' a'.hj)
    have HWD := hide hwd
    obtain ⟨W, hW⟩ : ∃ W, W = wd.alloc (.cells #[.string key, v1 val, v2 val] 99) := ⟨_, rfl⟩
    have tW : Turn (fun _ => False) wd W := by rw [hW]; exact (Turn.refl _ wd).alloc _
    have hvW : W.heap[wd.heap.size]? = some (.cells #[.string key, v1 val, v2 val] 99 (0, 0)) := by rw [hW]; exact heap_alloc_new wd _
    have hown := ownsRow_turn (H2d.get k' a'.hk) tW (fun _ _ h => h)
    have hne : (Value.slice A xs.length c).ownBlock ≠ some wd.heap.size := fun e => by
      have := (ownsRow_base (H2d.get k' a'.hk) e).2
      omega
    have hins := ins_any base (.slice A xs.length c) xs.length (pos xs key) (cells xs) wd.heap.size (.string key) (v1 val) (v2 val) W hown (cells_one xs) rfl rfl rfl hpl (by omega) hvW hne (by rw [hW]; have := H2d.base_le; simp; omega)
    have HI := hide hins
    have HWW := hide hW
    have hA := H2d.stay tW
    have H3 := hide hA
    have HB := hide hi'
    obtain ⟨t0, t1, _, _⟩ := cell2 (hA.get i' hi')
    obtain ⟨t2, t3, t4, t5⟩ := mcells (hA.get j' a'.hj)
    rw [hW] at t0 t1 t2
    clear haft hr a' hown hne hins hvW tW hW hwd H2d hA t3 t4 t5 f0 f1 c1
    go_wp2_with fail
    refine wp_region_noPanic ?_
    refine wp_region_held_drew (S := (fun W => W.cell? ⟨r, 0, none⟩ = some (v1 val) ∧ W.cell? ⟨r, 1, none⟩ = some (v2 val))) (by kernel_rfl) ⟨x0, x1⟩ (fun hHeld => ?_)
    rw [← HWD.out] at hHeld ⊢
    refine wpAnyH_take (i := 0) (oi := ?oi101) (v := ?v101) ?hi101 (by kernel_rfl) (by kernel_rfl) (by kernel_rfl) ?hQ101 ?hy101 hHeld ?rest101
    case hi101 => simp only [List.getElem?_toArray, List.getElem?_cons_zero]; rfl
    case hQ101 => exact fun _ _ _ h => h
    case hy101 =>
      refine Or.inl ⟨by rfl, ?_⟩
      intro w' hSw
      go_simp
      try with_reducible rfl
    try simp only [Act.put, List.setIfInBounds_toArray, List.set_cons_zero, List.set_cons_succ]
    refine wpAnyH_take (i := 1) (oi := ?oi102) (v := ?v102) ?hi102 (by kernel_rfl) (by kernel_rfl) (by kernel_rfl) ?hQ102 ?hy102 hHeld ?rest102
    case hi102 => simp only [List.getElem?_toArray, List.getElem?_cons_succ, List.getElem?_cons_zero]; rfl
    case hQ102 => exact fun _ _ _ h => h
    case hy102 =>
      refine Or.inl ⟨by rfl, ?_⟩
      intro w' hSw
      go_simp
      try with_reducible rfl
    try simp only [Act.put, List.setIfInBounds_toArray, List.set_cons_zero, List.set_cons_succ]
    refine wpAnyH_take (i := 2) (oi := ?oi103) (v := ?v103) ?hi103 (by kernel_rfl) (by kernel_rfl) (by kernel_rfl) ?hQ103 ?hy103 hHeld ?rest103
    case hi103 => simp only [List.getElem?_toArray, List.getElem?_cons_succ, List.getElem?_cons_zero]; rfl
    case hQ103 => exact fun _ _ _ h => h
    case hy103 =>
      refine Or.inl ⟨by rfl, ?_⟩
      intro w' hSw
      go_simp
      try with_reducible rfl
    try simp only [Act.put, List.setIfInBounds_toArray, List.set_cons_zero, List.set_cons_succ]
    refine wpAnyH_take (i := 3) (oi := ?oi104) (v := ?v104) ?hi104 (by kernel_rfl) (by kernel_rfl) (by kernel_rfl) ?hQ104 ?hy104 hHeld ?rest104
    case hi104 => simp only [List.getElem?_toArray, List.getElem?_cons_succ, List.getElem?_cons_zero]; rfl
    case hQ104 => exact fun _ _ _ h => h
    case hy104 =>
      refine Or.inl ⟨by rfl, ?_⟩
      intro w' hSw
      go_simp
      try with_reducible rfl
    try simp only [Act.put, List.setIfInBounds_toArray, List.set_cons_zero, List.set_cons_succ]
    refine wpAnyH_take (i := 5) (oi := ?oi105) (v := ?v105) ?hi105 (by kernel_rfl) (by kernel_rfl) (by kernel_rfl) ?hQ105 ?hy105 hHeld ?rest105
    case hi105 => simp only [List.getElem?_toArray, List.getElem?_cons_succ, List.getElem?_cons_zero]; rfl
    case hQ105 => exact fun _ _ _ h => h
    case hy105 =>
      refine Or.inl ⟨by rfl, ?_⟩
      intro w' hSw
      go_simp
      try with_reducible rfl
    try simp only [Act.put, List.setIfInBounds_toArray, List.set_cons_zero, List.set_cons_succ]
    refine wpAnyH_take (i := 6) (oi := ?oi106) (v := ?v106) ?hi106 (by kernel_rfl) (by kernel_rfl) (by kernel_rfl) ?hQ106 ?hy106 hHeld ?rest106
    case hi106 => simp only [List.getElem?_toArray, List.getElem?_cons_succ, List.getElem?_cons_zero]; rfl
    case hQ106 => exact fun _ _ _ h => h
    case hy106 =>
      refine Or.inl ⟨by rfl, ?_⟩
      intro w' hSw
      go_simp
      try with_reducible rfl
    try simp only [Act.put, List.setIfInBounds_toArray, List.set_cons_zero, List.set_cons_succ]
    refine wpAnyH_take (i := 7) (oi := ?oi107) (v := ?v107) ?hi107 (by kernel_rfl) (by kernel_rfl) (by kernel_rfl) ?hQ107 ?hy107 hHeld ?rest107
    case hi107 => simp only [List.getElem?_toArray, List.getElem?_cons_succ, List.getElem?_cons_zero]; rfl
    case hQ107 => exact fun _ _ _ h => h
    case hy107 =>
      refine Or.inl ⟨by rfl, ?_⟩
      intro w' hSw
      obtain ⟨u1, u2⟩ := hSw
      go_simp
      try with_reducible rfl
    try simp only [Act.put, List.setIfInBounds_toArray, List.set_cons_zero, List.set_cons_succ]
    refine wpAnyH_take (i := 8) (oi := ?oi108) (v := ?v108) ?hi108 (by kernel_rfl) (by kernel_rfl) (by kernel_rfl) ?hQ108 ?hy108 hHeld ?rest108
    case hi108 => simp only [List.getElem?_toArray, List.getElem?_cons_succ, List.getElem?_cons_zero]; rfl
    case hQ108 => exact fun _ _ _ h => h
    case hy108 =>
      refine Or.inl ⟨by rfl, ?_⟩
      intro w' hSw
      go_simp
      try with_reducible rfl
    try simp only [Act.put, List.setIfInBounds_toArray, List.set_cons_zero, List.set_cons_succ]
    refine wpAnyH_ready (rs := [4, 9]) (by kernel_rfl) (by simp) ?_
    refine AllReadyH.cons (o := ?oi119) ?hi119 ?st119 (AllReadyH.cons (o := ?oi120) ?hi120 ?st120 AllReadyH.nil)
    case hi119 => simp only [List.getElem?_toArray, List.getElem?_cons_succ, List.getElem?_cons_zero]; rfl
    case hi120 => simp only [List.getElem?_toArray, List.getElem?_cons_succ, List.getElem?_cons_zero]; rfl
    · intro K hK
      go_simp
      refine hK.out _ _ hHeld (fun hNew => ?_)
      clear hK K hHeld
      have hHeld := hNew
      clear hNew
      try simp only [Act.put, List.setIfInBounds_toArray, List.set_cons_zero, List.set_cons_succ]
      refine wpAnyH_ready (rs := [9]) (by kernel_rfl) (by simp) ?_
      refine AllReadyH.cons (o := ?oi113) ?hi113 ?st113 AllReadyH.nil
      case hi113 => simp only [List.getElem?_toArray, List.getElem?_cons_succ, List.getElem?_cons_zero]; rfl
      intro K hK
      go_simp
      refine hK.out _ _ ⟨t0, t1⟩ (fun hNew => ?_)
      clear hK K hHeld
      have hHeld := hNew
      clear hNew
      try simp only [Act.put, List.setIfInBounds_toArray, List.set_cons_zero, List.set_cons_succ]
      refine wpAnyH_ready (rs := [10]) (by kernel_rfl) (by simp) ?_
      refine AllReadyH.cons (o := ?oi109) ?hi109 ?st109 AllReadyH.nil
      case hi109 => simp only [List.getElem?_toArray, List.getElem?_cons_succ, List.getElem?_cons_zero]; rfl
      intro K hK
      go_simp
      go_at_call 62
      rw [← HWW.out]
      refine HI.out.mono ?_
      rintro e w3 ⟨v3, rfl, hI⟩
      obtain ⟨A3, c3, rfl⟩ := (Rd.of_own hI.own).shape
      have hC : cells (put xs key val) = (cells xs).take (pos xs key * 3) ++ [.string key, v1 val, v2 val] ++ (cells xs).drop (pos xs key * 3) := by
        rw [HP.out, show cells (xs.take (pos xs key) ++ (key, val) :: xs.drop (pos xs key)) = cells (xs.take (pos xs key)) ++ ([.string key, v1 val, v2 val] ++ cells (xs.drop (pos xs key))) by simp, cells_take, cells_drop, List.append_assoc]
      have hL : (put xs key val).length = xs.length + 1 := by rw [put_length xs key val AA.out.hs, HH.out]; rfl
      have h4 := H3.out.step k' (t' := row base 99 3 (.slice A3 (xs.length + 1) c3) (put xs key val).length (cells (put xs key val))) A2.out.hk hI.turn (by rw [hL, hC]; exact hI.own) (fun b hb => hI.new b hb)
      have hjk := A2.out.jk H2.out
      have hj4 : (ts'.set k' (row base 99 3 (.slice A3 (xs.length + 1) c3) (put xs key val).length (cells (put xs key val))))[j']? = some (box T (mobj (.slice A xs.length c) false)) := by rw [List.getElem?_set_ne (fun e => hjk e.symm)]; exact A2.out.hj
      have hik : i' ≠ k' := fun e => by
        have e2 := HB.out.symm.trans (e ▸ A2.out.hk)
        injection e2 with e2
        have h2 : (row base 99 3 (.slice A xs.length c) xs.length (cells xs)).foot w2 r := by rw [← e2]; exact rfl
        exact ownsRow_other (H2.out.get k' A2.out.hk) (H2.out.get i' HB.out) (fun cur fz e3 => by injection e3 with _ e4 _; cases e4) h2
      have hij : i' ≠ j' := fun e => by
        have e2 := HB.out.symm.trans (e ▸ A2.out.hj)
        injection e2 with e2
        have h2 : (box T (mobj (.slice A xs.length c) false)).foot w2 r := by rw [← e2]; exact rfl
        obtain rfl : r = T := h2
        have h3 : w2.heap[r]? = _ := H2.out.get i' HB.out
        have h4 : w2.heap[r]? = _ := H2.out.get j' A2.out.hj
        rw [h3] at h4
        cases h4
      have hi4 : (ts'.set k' (row base 99 3 (.slice A3 (xs.length + 1) c3) (put xs key val).length (cells (put xs key val))))[i']? = some (rbx r val) := by rw [List.getElem?_set_ne (fun e => hik e.symm)]; exact HB.out
      obtain ⟨e0, e1, k0, k1⟩ := mcells (h4.get j' hj4)
      obtain ⟨z0, z1, _, _⟩ := cell2 (h4.get i' hi4)
      have h5 := h4.setBox j' hj4 0 (.slice A3 (xs.length + 1) c3)
      obtain ⟨y0, y1, _, _⟩ := cell2 (h5.get i' (by rw [List.getElem?_set_ne (fun e => hij e.symm)]; exact hi4))
      have fin : Hid (Lie base w0 (w3.setCell ⟨T, 0, none⟩ (.slice A3 (xs.length + 1) c3)) (aft base ts j k T (.slice A3 (xs.length + 1) c3) lent (put xs key val))) := hide (by
        refine OUT.out _ _ _ ?_
        rw [← HA.out, List.set_comm _ _ hjk]
        simpa using h5)
      clear hI hC hL h4 hjk hj4 h5 hik hij hi4
      try go_wp2_with fail
      refine hK.out _ _ ⟨z0, z1⟩ (fun hNew => ?_)
      clear hK K hHeld
      have hHeld := hNew
      clear hNew
      try simp only [Act.put, List.setIfInBounds_toArray, List.set_cons_zero, List.set_cons_succ]
      refine wpAnyH_take (i := 11) (oi := ?oi110) (v := ?v110) ?hi110 (by kernel_rfl) (by kernel_rfl) (by kernel_rfl) ?hQ110 ?hy110 hHeld ?rest110
      case hi110 => simp only [List.getElem?_toArray, List.getElem?_cons_succ, List.getElem?_cons_zero]; rfl
      case hQ110 => exact fun _ _ _ h => h
      case hy110 =>
        refine Or.inl ⟨by rfl, ?_⟩
        intro w' hSw
        go_simp
        try with_reducible rfl
      try simp only [Act.put, List.setIfInBounds_toArray, List.set_cons_zero, List.set_cons_succ]
      refine wpAnyH_take (i := 12) (oi := ?oi111) (v := ?v111) ?hi111 (by kernel_rfl) (by kernel_rfl) (by kernel_rfl) ?hQ111 ?hy111 hHeld ?rest111
      case hi111 => simp only [List.getElem?_toArray, List.getElem?_cons_succ, List.getElem?_cons_zero]; rfl
      case hQ111 => exact fun _ _ _ h => h
      case hy111 =>
        refine Or.inl ⟨by rfl, ?_⟩
        intro w' hSw
        go_simp
        try with_reducible rfl
      try simp only [Act.put, List.setIfInBounds_toArray, List.set_cons_zero, List.set_cons_succ]
      refine wpAnyH_ready (rs := [13]) (by kernel_rfl) (by simp) ?_
      refine AllReadyH.cons (o := ?oi112) ?hi112 ?st112 AllReadyH.nil
      case hi112 => simp only [List.getElem?_toArray, List.getElem?_cons_succ, List.getElem?_cons_zero]; rfl
      intro K hK
      go_simp
      refine hK.out _ _ ⟨y0, y1⟩ (fun hNew => ?_)
      clear hK K hHeld
      have hHeld := hNew
      clear hNew
      try simp only [Act.put, List.setIfInBounds_toArray, List.set_cons_zero, List.set_cons_succ]
      refine wpAnyH_done (by kernel_rfl) ?_ _
      refine NoPanic.normal ?_
      go_wp2_with fail
      go_ret
      exact ⟨by rw [HH.out]; rfl, _, fin⟩
    · intro K hK
      go_simp
      refine hK.out _ _ ⟨t0, t1⟩ (fun hNew => ?_)
      clear hK K hHeld
      have hHeld := hNew
      clear hNew
      try simp only [Act.put, List.setIfInBounds_toArray, List.set_cons_zero, List.set_cons_succ]
      refine wpAnyH_ready (rs := [4]) (by kernel_rfl) (by simp) ?_
      refine AllReadyH.cons (o := ?oi118) ?hi118 ?st118 AllReadyH.nil
      case hi118 => simp only [List.getElem?_toArray, List.getElem?_cons_succ, List.getElem?_cons_zero]; rfl
      intro K hK
      go_simp
      refine hK.out _ _ ⟨t0, t1⟩ (fun hNew => ?_)
      clear hK K hHeld
      have hHeld := hNew
      clear hNew
      try simp only [Act.put, List.setIfInBounds_toArray, List.set_cons_zero, List.set_cons_succ]
      refine wpAnyH_ready (rs := [10]) (by kernel_rfl) (by simp) ?_
      refine AllReadyH.cons (o := ?oi114) ?hi114 ?st114 AllReadyH.nil
      case hi114 => simp only [List.getElem?_toArray, List.getElem?_cons_succ, List.getElem?_cons_zero]; rfl
      intro K hK
      go_simp
      go_at_call 62
      rw [← HWW.out]
      refine HI.out.mono ?_
      rintro e w3 ⟨v3, rfl, hI⟩
      obtain ⟨A3, c3, rfl⟩ := (Rd.of_own hI.own).shape
      have hC : cells (put xs key val) = (cells xs).take (pos xs key * 3) ++ [.string key, v1 val, v2 val] ++ (cells xs).drop (pos xs key * 3) := by
        rw [HP.out, show cells (xs.take (pos xs key) ++ (key, val) :: xs.drop (pos xs key)) = cells (xs.take (pos xs key)) ++ ([.string key, v1 val, v2 val] ++ cells (xs.drop (pos xs key))) by simp, cells_take, cells_drop, List.append_assoc]
      have hL : (put xs key val).length = xs.length + 1 := by rw [put_length xs key val AA.out.hs, HH.out]; rfl
      have h4 := H3.out.step k' (t' := row base 99 3 (.slice A3 (xs.length + 1) c3) (put xs key val).length (cells (put xs key val))) A2.out.hk hI.turn (by rw [hL, hC]; exact hI.own) (fun b hb => hI.new b hb)
      have hjk := A2.out.jk H2.out
      have hj4 : (ts'.set k' (row base 99 3 (.slice A3 (xs.length + 1) c3) (put xs key val).length (cells (put xs key val))))[j']? = some (box T (mobj (.slice A xs.length c) false)) := by rw [List.getElem?_set_ne (fun e => hjk e.symm)]; exact A2.out.hj
      have hik : i' ≠ k' := fun e => by
        have e2 := HB.out.symm.trans (e ▸ A2.out.hk)
        injection e2 with e2
        have h2 : (row base 99 3 (.slice A xs.length c) xs.length (cells xs)).foot w2 r := by rw [← e2]; exact rfl
        exact ownsRow_other (H2.out.get k' A2.out.hk) (H2.out.get i' HB.out) (fun cur fz e3 => by injection e3 with _ e4 _; cases e4) h2
      have hij : i' ≠ j' := fun e => by
        have e2 := HB.out.symm.trans (e ▸ A2.out.hj)
        injection e2 with e2
        have h2 : (box T (mobj (.slice A xs.length c) false)).foot w2 r := by rw [← e2]; exact rfl
        obtain rfl : r = T := h2
        have h3 : w2.heap[r]? = _ := H2.out.get i' HB.out
        have h4 : w2.heap[r]? = _ := H2.out.get j' A2.out.hj
        rw [h3] at h4
        cases h4
      have hi4 : (ts'.set k' (row base 99 3 (.slice A3 (xs.length + 1) c3) (put xs key val).length (cells (put xs key val))))[i']? = some (rbx r val) := by rw [List.getElem?_set_ne (fun e => hik e.symm)]; exact HB.out
      obtain ⟨e0, e1, k0, k1⟩ := mcells (h4.get j' hj4)
      obtain ⟨z0, z1, _, _⟩ := cell2 (h4.get i' hi4)
      have h5 := h4.setBox j' hj4 0 (.slice A3 (xs.length + 1) c3)
      obtain ⟨y0, y1, _, _⟩ := cell2 (h5.get i' (by rw [List.getElem?_set_ne (fun e => hij e.symm)]; exact hi4))
      have fin : Hid (Lie base w0 (w3.setCell ⟨T, 0, none⟩ (.slice A3 (xs.length + 1) c3)) (aft base ts j k T (.slice A3 (xs.length + 1) c3) lent (put xs key val))) := hide (by
        refine OUT.out _ _ _ ?_
        rw [← HA.out, List.set_comm _ _ hjk]
        simpa using h5)
      clear hI hC hL h4 hjk hj4 h5 hik hij hi4
      try go_wp2_with fail
      refine hK.out _ _ ⟨z0, z1⟩ (fun hNew => ?_)
      clear hK K hHeld
      have hHeld := hNew
      clear hNew
      try simp only [Act.put, List.setIfInBounds_toArray, List.set_cons_zero, List.set_cons_succ]
      refine wpAnyH_take (i := 11) (oi := ?oi115) (v := ?v115) ?hi115 (by kernel_rfl) (by kernel_rfl) (by kernel_rfl) ?hQ115 ?hy115 hHeld ?rest115
      case hi115 => simp only [List.getElem?_toArray, List.getElem?_cons_succ, List.getElem?_cons_zero]; rfl
      case hQ115 => exact fun _ _ _ h => h
      case hy115 =>
        refine Or.inl ⟨by rfl, ?_⟩
        intro w' hSw
        go_simp
        try with_reducible rfl
      try simp only [Act.put, List.setIfInBounds_toArray, List.set_cons_zero, List.set_cons_succ]
      refine wpAnyH_take (i := 12) (oi := ?oi116) (v := ?v116) ?hi116 (by kernel_rfl) (by kernel_rfl) (by kernel_rfl) ?hQ116 ?hy116 hHeld ?rest116
      case hi116 => simp only [List.getElem?_toArray, List.getElem?_cons_succ, List.getElem?_cons_zero]; rfl
      case hQ116 => exact fun _ _ _ h => h
      case hy116 =>
        refine Or.inl ⟨by rfl, ?_⟩
        intro w' hSw
        go_simp
        try with_reducible rfl
      try simp only [Act.put, List.setIfInBounds_toArray, List.set_cons_zero, List.set_cons_succ]
      refine wpAnyH_ready (rs := [13]) (by kernel_rfl) (by simp) ?_
      refine AllReadyH.cons (o := ?oi117) ?hi117 ?st117 AllReadyH.nil
      case hi117 => simp only [List.getElem?_toArray, List.getElem?_cons_succ, List.getElem?_cons_zero]; rfl
      intro K hK
      go_simp
      refine hK.out _ _ ⟨y0, y1⟩ (fun hNew => ?_)
      clear hK K hHeld
      have hHeld := hNew
      clear hNew
      try simp only [Act.put, List.setIfInBounds_toArray, List.set_cons_zero, List.set_cons_succ]
      refine wpAnyH_done (by kernel_rfl) ?_ _
      refine NoPanic.normal ?_
      go_wp2_with fail
      go_ret
      exact ⟨by rw [HH.out]; rfl, _, fin⟩
end
end Go.Proofs.Ytcaeechlpadboaa.MP
