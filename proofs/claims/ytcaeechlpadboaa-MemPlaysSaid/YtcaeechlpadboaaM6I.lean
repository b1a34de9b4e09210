/-
  A table of numbers: Delete, Clear, Twin, From; going over it.
-/
import Derived.Test.YtcaeechlpadboaaM5I
import Derived.Test.YtcaeechlpadboaaRgn
import Derived.RangeFuncNested
import Derived.OwnWalkIn
import Derived.TacticsInMore
import Derived.LoopNIn
import Derived.LoopIn
import Derived.Shelf.Abstract
namespace Go.Proofs.Ytcaeechlpadboaa.MI
open Go.RowKit Go.Maps Go.Shelf

theorem del_has (xs : List Ent) (key : ByteArray) (hh : has xs key = true) : del xs key = xs.take (pos xs key) ++ xs.drop (pos xs key + 1) := by
  unfold del
  rw [hh, if_pos rfl]
theorem del_no (xs : List Ent) (key : ByteArray) (hh : has xs key = false) : del xs key = xs := by
  unfold del
  rw [hh]
  rfl
/-- What lies there when a key was taken away. -/
def aftDel (base : Nat) (ts : List Thing) (j k T : Nat) (v : Value) (lent : Bool) (xs : List Ent) (key : ByteArray) : List Thing :=
  if has xs key then aft base ts j k T v lent (del xs key) else ts

section
variable {base : Nat} {w0 w : World} {ts : List Thing} {j k T : Nat} {v : Value} {lent : Bool} {xs : List Ent}
set_option maxRecDepth 100000 in
theorem delete_nil (key : ByteArray) (w : World) : Calls Try.prog 29 #[.pointer none, .string key] w (Same (.bool false) w) := by
  go_enter Try.func29, Try.ntmps29
  go_wp2_with fail
  refine (find_nil key w).mono ?_
  rintro e w1 ⟨rfl, t1⟩
  have T1 := hide t1
  clear t1
  go_wp2_with fail
  go_ret
  exact ⟨rfl, T1.out⟩
set_option maxRecDepth 100000 in
set_option maxHeartbeats 2000000 in
theorem delete_any (key : ByteArray) (a : At base ts j k T v lent xs) (h : Lie base w0 w ts) :
    Calls Try.prog 29 #[pt T, .string key] w fun e w' => e = .returned (.bool (has xs key)) ∧ ∃ v', Hid (Lie base w0 w' (aftDel base ts j k T v' lent xs key)) := by
  have HF := hide (find_any key a h)
  have AA := hide a
  by_cases hh : has xs key = true
  · obtain ⟨hp, _⟩ := (has_pos xs key a.hs).1 hh
    have HH := hide hh
    have HP := hide (del_has xs key hh)
    have hn := a.hn
    clear a h hh
    go_enter Try.func29, Try.ntmps29
    go_wp2_with fail
    refine HF.out.mono ?_
    rintro e w1 ⟨rfl, H1⟩
    rw [HH.out]
    go_wp2_with fail
    refine (own_any AA.out H1.out).mono ?_
    rintro e w2 ⟨rfl, ts', j', k', v', a', H2, haft⟩
    have HA := hide haft
    have A2 := hide a'
    obtain ⟨A, c, rfl, hr⟩ := a'.rd H2.out
    obtain ⟨c0, c1, f0, f1⟩ := mcells (H2.out.get j' a'.hj)
    have hown := H2.out.get k' a'.hk
    obtain ⟨g, rfl⟩ : ∃ g, A = some ⟨g, 0, none⟩ := by
      rcases hown.2 with ⟨h5, h6⟩ | ⟨g, cap, cur, h5, _⟩
      · omega
      · injection h5 with h6; exact ⟨g, h6⟩
    have HD := hide (del_ok base g xs.length c (pos xs key) (cells xs) w2 hown (cells_one xs) hp)
    clear haft hr a' hown
    go_wp2_with fail
    refine HD.out.mono ?_
    rintro e w3 ⟨rfl, hD⟩
    have hC : cells (del xs key) = (cells xs).take (pos xs key * 2) ++ (cells xs).drop ((pos xs key + 1) * 2) := by
      rw [HP.out, show cells (xs.take (pos xs key) ++ xs.drop (pos xs key + 1)) = cells (xs.take (pos xs key)) ++ cells (xs.drop (pos xs key + 1)) by simp, cells_take, cells_drop]
    have hL : (del xs key).length = xs.length - 1 := by rw [HP.out]; simp; omega
    have h4 := H2.out.step k' (t' := row base 89 2 (.slice (some ⟨g, 0, none⟩) (xs.length - 1) c) (del xs key).length (cells (del xs key))) A2.out.hk (hD.turn.mono (fun b _ e => by rw [e]; rfl)) (by rw [hL, hC]; exact hD.own) (fun b hb => .inl hb)
    have hjk := A2.out.jk H2.out
    have hj4 : (ts'.set k' (row base 89 2 (.slice (some ⟨g, 0, none⟩) (xs.length - 1) c) (del xs key).length (cells (del xs key))))[j']? = some (box T (mobj (.slice (some ⟨g, 0, none⟩) xs.length c) false)) := by rw [List.getElem?_set_ne (fun e => hjk e.symm)]; exact A2.out.hj
    obtain ⟨e0, e1, k0, k1⟩ := mcells (h4.get j' hj4)
    have h5 := h4.setBox j' hj4 0 (.slice (some ⟨g, 0, none⟩) (xs.length - 1) c)
    have fin : Hid (Lie base w0 (w3.setCell ⟨T, 0, none⟩ (.slice (some ⟨g, 0, none⟩) (xs.length - 1) c)) (aftDel base ts j k T (.slice (some ⟨g, 0, none⟩) (xs.length - 1) c) lent xs key)) := hide (by
      unfold aftDel
      rw [HH.out, if_pos rfl, ← HA.out, List.set_comm _ _ hjk]
      simpa using h5)
    clear hD hC hL h4 hjk hj4 h5 c0 c1 f0 f1
    go_wp2_with fail
    go_ret
    exact ⟨by rw [HH.out]; rfl, _, fin⟩
  · have HH := hide (Bool.eq_false_iff.2 hh)
    clear a h hh
    go_enter Try.func29, Try.ntmps29
    go_wp2_with fail
    refine HF.out.mono ?_
    rintro e w1 ⟨rfl, H1⟩
    rw [HH.out]
    go_wp2_with fail
    go_ret
    exact ⟨by rw [HH.out]; rfl, v, hide (by unfold aftDel; rw [HH.out]; exact H1.out)⟩
set_option maxRecDepth 100000 in
theorem clear_nil (w : World) : Calls Try.prog 38 #[.pointer none] w (Same (.tuple #[]) w) := by
  go_enter Try.func38, Try.ntmps38
  go_wp2_with fail
  refine bodyPost_end (results_none rfl _ _ _) rfl ?_
  exact ⟨rfl, Turn.refl _ w⟩
set_option maxRecDepth 100000 in
theorem clear_any (a : At base ts j k T v lent xs) (h : Lie base w0 w ts) : Calls Try.prog 38 #[pt T] w (TL (.tuple #[]) base w0 (row base 89 2 (.slice none 0 0) 0 [] :: ts.set j (box T (mobj (.slice none 0 0) false)))) := by
  obtain ⟨c0, c1, f0, f1⟩ := mcells (h.get j a.hj)
  have h1 := h.setBox j a.hj 0 (.slice none 0 0)
  have hj1 : (ts.set j (box T (mobj (.slice none 0 0) lent)))[j]? = some (box T (mobj (.slice none 0 0) lent)) := List.getElem?_set_self a.lt.1
  have h2 := h1.setBox j hj1 1 (.bool false)
  have h3 := h2.push (t := row base 89 2 (.slice none 0 0) 0 []) (Turn.refl _ _) (World.ownsRow_nil _ _ _ _) (fun b hb => by cases hb)
  have fin : Hid (Lie base w0 ((w.setCell ⟨T, 0, none⟩ (.slice none 0 0)).setCell ⟨T, 1, none⟩ (.bool false)) (row base 89 2 (.slice none 0 0) 0 [] :: ts.set j (box T (mobj (.slice none 0 0) false)))) := hide (by simpa using h3)
  clear h a h1 hj1 h2 h3
  go_enter Try.func38, Try.ntmps38
  go_wp2_with fail
  refine bodyPost_end (results_none rfl _ _ _) rfl ?_
  exact ⟨rfl, fin⟩
set_option maxRecDepth 100000 in
theorem twin_nil (w : World) : Calls Try.prog 37 #[.pointer none] w (Same (.pointer none) w) := by
  go_enter Try.func37, Try.ntmps37
  go_wp2_with fail
  go_ret
  exact ⟨rfl, Turn.refl _ w⟩
set_option maxRecDepth 100000 in
theorem twin_any (a : At base ts j k T v lent xs) (h : Lie base w0 w ts) : Calls Try.prog 37 #[pt T] w fun e w' => ∃ T' v', e = .returned (pt T') ∧ Hid (Lie base w0 w' (row base 89 2 v' xs.length (cells xs) :: box T' (mobj v' false) :: ts)) := by
  obtain ⟨A, c, rfl, hr⟩ := a.rd h
  obtain ⟨c0, c1, f0, f1⟩ := mcells (h.get j a.hj)
  have HC := hide (clone_any _ _ _ w hr (cells_one xs) (by have := a.hn; omega))
  have H := hide h
  clear h a hr
  go_enter Try.func37, Try.ntmps37
  go_wp2_with fail
  refine HC.out.mono ?_
  rintro e w1 ⟨v', rfl, own', t1⟩
  obtain ⟨A', c', rfl⟩ := (Rd.of_own own').shape
  have fin : Hid (Lie base w0 (w1.alloc (mobj (.slice A' xs.length c') false)) (row base 89 2 (.slice A' xs.length c') xs.length (cells xs) :: box w1.heap.size (mobj (.slice A' xs.length c') false) :: ts)) :=
    hide ((H.out.push (t := row base 89 2 (.slice A' xs.length c') xs.length (cells xs)) t1 (ownsRow_low own' H.out.base_le) (fun g hg => (ownsRow_base own' hg).1)).alloc _).swap
  clear own' t1 c0 c1 f0 f1
  go_wp2_with fail
  go_ret
  exact ⟨_, _, rfl, fin⟩

/-- What is gone over from a place on. -/
def TailOf (v sl : Value) (xs : List Ent) (q : Nat) : Prop := ∀ (w : World) (b : Nat), w.ownsRow b 89 2 v xs.length (cells xs) → Rd w 2 sl (xs.length - q) (cells (xs.drop q))
theorem tail_of {g n c : Nat} (xs : List Ent) (q : Nat) (hn : xs.length = n) (hq : q ≤ n) : TailOf (.slice (some ⟨g, 0, none⟩) n c) (.slice (if c = q then some ⟨g, 0, none⟩ else some ⟨g, q * 2, none⟩) (n - q) (c - q)) xs q := by
  subst hn
  intro w b h
  refine ⟨by rw [cells_length, List.length_drop], _, _, rfl, fun h => (by split at h <;> cases h), fun h0 => ?_⟩
  have hnc : xs.length ≤ c := by
    rcases h.2 with ⟨h5, _⟩ | ⟨g', cap', cur, h5, _, _, h6, _⟩
    · cases h5
    · injection h5 with _ _ h7; omega
  obtain ⟨b', o, hA, hb, hc⟩ := (Rd.of_own h).cells (by omega)
  injection hA with hA
  injection hA with hA ho
  subst hA ho
  refine ⟨g, q * 2, by rw [if_neg (by omega)], hb, fun j u hj => ?_⟩
  rw [cells_drop, List.getElem?_drop] at hj
  have := hc _ u hj
  rwa [Nat.zero_add] at this
theorem tail_nil (xs : List Ent) (hx : xs = []) (q : Nat) : TailOf (.slice none 0 0) (.slice none 0 0) xs q := by
  subst hx
  intro w b h
  refine ⟨by simp, none, 0, by simp, fun _ => ⟨by simp, rfl⟩, fun h0 => ?_⟩
  simp at h0
set_option maxRecDepth 100000 in
theorem from_nil (key : ByteArray) (h : Lie base w0 w ts) : Calls Try.prog 22 #[.pointer none, .string key] w fun e w' => ∃ lb, e = .returned (.func (.func 58) #[] #[pt lb]) ∧ Hid (Lie base w0 w' (box lb (.cells #[.slice none 0 0] 90 (0, 0)) :: ts)) := by
  have H := hide h
  clear h
  go_enter Try.func22, Try.ntmps22
  go_wp2_with fail
  refine (find_nil key w).mono ?_
  rintro e w1 ⟨rfl, t1⟩
  have fin : Hid (Lie base w0 (w1.alloc (.cells #[.slice none 0 0] 90)) (box w1.heap.size (.cells #[.slice none 0 0] 90 (0, 0)) :: ts)) := hide ((H.out.stay t1).alloc _)
  clear t1
  go_wp2_with fail
  go_ret
  exact ⟨_, rfl, fin⟩
set_option maxRecDepth 100000 in
set_option maxHeartbeats 1000000 in
theorem from_any (key : ByteArray) (a : At base ts j k T v lent xs) (h : Lie base w0 w ts) : Calls Try.prog 22 #[pt T, .string key] w fun e w' => ∃ lb sl, e = .returned (.func (.func 58) #[] #[pt lb]) ∧ Hid (TailOf v sl xs (pos xs key)) ∧
    Hid (Lie base w0 w' (box lb (.cells #[sl] 90 (0, 0)) :: ts.set j (box T (mobj v true)))) := by
  have HF := hide (find_any key a h)
  have AA := hide a
  have hpl := pos_le xs key
  rcases (h.get k a.hk).2 with ⟨hv, h0⟩ | ⟨g, c, cur, hv, _, _, hnc, _⟩
  · have hx : xs = [] := List.eq_nil_of_length_eq_zero h0
    have HT : Hid (TailOf (.slice none 0 0) (.slice none 0 0) xs (pos xs key)) := hide (tail_nil xs hx _)
    have HP : Hid (pos xs key = 0) := hide (by omega)
    subst hv
    clear a h
    go_enter Try.func22, Try.ntmps22
    go_wp2_with fail
    refine HF.out.mono ?_
    rintro e w1 ⟨rfl, H1⟩
    rw [HP.out]
    have h3 := H1.out.alloc (.cells #[.slice none 0 0] 90)
    have hj3 : (box w1.heap.size (.cells #[.slice none 0 0] 90 (0, 0)) :: ts)[j + 1]? = some (box T (mobj (.slice none 0 0) lent)) := AA.out.hj
    obtain ⟨c0, c1, f0, f1⟩ := mcells (h3.get (j + 1) hj3)
    obtain ⟨e0, k0⟩ := cell1 (h3.get 0 rfl)
    have hne : T ≠ w1.heap.size := h3.ne (j + 1) 0 hj3 rfl (by omega)
    have hne2 : w1.heap.size ≠ T := fun e => hne e.symm
    have h4 := (h3.setBox (j + 1) hj3 1 (.bool true)).setBox 0 rfl 0 (.slice none 0 0)
    have fin : Hid (Lie base w0 (((w1.alloc (.cells #[.slice none 0 0] 90)).setCell ⟨T, 1, none⟩ (.bool true)).setCell ⟨w1.heap.size, 0, none⟩ (.slice none 0 0)) (box w1.heap.size (.cells #[.slice none 0 0] 90 (0, 0)) :: ts.set j (box T (mobj (.slice none 0 0) true)))) := hide (by simpa using h4)
    clear h3 hj3 h4
    go_wp2_with fail
    go_ret
    exact ⟨_, _, rfl, HT, fin⟩
  · subst hv
    by_cases hcq : c = pos xs key
    · have HT : Hid (TailOf (.slice (some ⟨g, 0, none⟩) xs.length c) (.slice (some ⟨g, 0, none⟩) 0 0) xs (pos xs key)) := hide (by
        have := tail_of (g := g) (c := c) xs (pos xs key) rfl hpl
        rwa [if_pos hcq, show xs.length - pos xs key = 0 by omega, show c - pos xs key = 0 by omega] at this)
      generalize pos xs key = q at *
      subst hcq
      clear a h
      go_enter Try.func22, Try.ntmps22
      go_wp2_with fail
      refine HF.out.mono ?_
      rintro e w1 ⟨rfl, H1⟩
      have h3 := H1.out.alloc (.cells #[.slice none 0 0] 90)
      have hj3 : (box w1.heap.size (.cells #[.slice none 0 0] 90 (0, 0)) :: ts)[j + 1]? = some (box T (mobj (.slice (some ⟨g, 0, none⟩) xs.length c) lent)) := AA.out.hj
      obtain ⟨c0, c1, f0, f1⟩ := mcells (h3.get (j + 1) hj3)
      obtain ⟨e0, k0⟩ := cell1 (h3.get 0 rfl)
      have hne : T ≠ w1.heap.size := h3.ne (j + 1) 0 hj3 rfl (by omega)
      have hne2 : w1.heap.size ≠ T := fun e => hne e.symm
      have h4 := (h3.setBox (j + 1) hj3 1 (.bool true)).setBox 0 rfl 0 (.slice (some ⟨g, 0, none⟩) 0 0)
      have fin : Hid (Lie base w0 (((w1.alloc (.cells #[.slice none 0 0] 90)).setCell ⟨T, 1, none⟩ (.bool true)).setCell ⟨w1.heap.size, 0, none⟩ (.slice (some ⟨g, 0, none⟩) 0 0)) (box w1.heap.size (.cells #[.slice (some ⟨g, 0, none⟩) 0 0] 90 (0, 0)) :: ts.set j (box T (mobj (.slice (some ⟨g, 0, none⟩) xs.length c) true)))) := hide (by simpa using h4)
      clear h3 hj3 h4
      go_wp2_with fail
      go_ret
      exact ⟨_, _, rfl, HT, fin⟩
    · have HT : Hid (TailOf (.slice (some ⟨g, 0, none⟩) xs.length c) (.slice (some ⟨g, pos xs key * 2, none⟩) (xs.length - pos xs key) (c - pos xs key)) xs (pos xs key)) := hide (by
        have := tail_of (g := g) (c := c) xs (pos xs key) rfl hpl
        rwa [if_neg hcq] at this)
      generalize pos xs key = q at *
      clear a h
      go_enter Try.func22, Try.ntmps22
      go_wp2_with fail
      refine HF.out.mono ?_
      rintro e w1 ⟨rfl, H1⟩
      have h3 := H1.out.alloc (.cells #[.slice none 0 0] 90)
      have hj3 : (box w1.heap.size (.cells #[.slice none 0 0] 90 (0, 0)) :: ts)[j + 1]? = some (box T (mobj (.slice (some ⟨g, 0, none⟩) xs.length c) lent)) := AA.out.hj
      obtain ⟨c0, c1, f0, f1⟩ := mcells (h3.get (j + 1) hj3)
      obtain ⟨e0, k0⟩ := cell1 (h3.get 0 rfl)
      have hne : T ≠ w1.heap.size := h3.ne (j + 1) 0 hj3 rfl (by omega)
      have hne2 : w1.heap.size ≠ T := fun e => hne e.symm
      have h4 := (h3.setBox (j + 1) hj3 1 (.bool true)).setBox 0 rfl 0 (.slice (some ⟨g, q * 2, none⟩) (xs.length - q) (c - q))
      have fin : Hid (Lie base w0 (((w1.alloc (.cells #[.slice none 0 0] 90)).setCell ⟨T, 1, none⟩ (.bool true)).setCell ⟨w1.heap.size, 0, none⟩ (.slice (some ⟨g, q * 2, none⟩) (xs.length - q) (c - q))) (box w1.heap.size (.cells #[.slice (some ⟨g, q * 2, none⟩) (xs.length - q) (c - q)] 90 (0, 0)) :: ts.set j (box T (mobj (.slice (some ⟨g, 0, none⟩) xs.length c) true)))) := hide (by simpa using h4)
      clear h3 hj3 h4
      go_wp2_with fail
      go_ret
      exact ⟨_, _, rfl, HT, fin⟩

/-- What the iterator reads. -/
def Needs (base lb : Nat) (sl v : Value) (xs : List Ent) (js : List Thing) : Prop := box lb (.cells #[sl] 90 (0, 0)) ∈ js ∧ row base 89 2 v xs.length (cells xs) ∈ js
theorem Needs.up {base lb : Nat} {sl v : Value} {xs : List Ent} (t : Thing) (js : List Thing) (h : Needs base lb sl v xs js) : Needs base lb sl v xs (t :: js) := ⟨List.mem_cons_of_mem _ h.1, List.mem_cons_of_mem _ h.2⟩
theorem Lie.mem {t : Thing} (h : Lie base w0 w ts) (ht : t ∈ ts) : t.is w := by
  obtain ⟨i, hi, e⟩ := List.getElem_of_mem ht
  exact h.get i (by rw [List.getElem?_eq_getElem hi, e])
abbrev att (x : Ent) : Array Value := #[.string x.1, vv x.2]
theorem enters1 : ∀ args w, (callFunc 58 args).run Try.prog w = .ok (.enter 58 args) w := enters_of Try.func58 (by kernel_rfl) rfl
def IterInv (base : Nat) (J : List Ent → List Thing → Prop) (w0 : World) (ys : List Ent) (k : Nat) (wr : World) : Prop := ∃ js, J (ys.take k) js ∧ Lie base w0 wr js

set_option maxRecDepth 100000 in
set_option maxHeartbeats 2000000 in
theorem iter_any (base lb q : Nat) (sl v : Value) (xs : List Ent) (htl : TailOf v sl xs q) (hn : xs.length ≤ 1000000) : IterN Try.prog 58 #[pt lb] att (xs.drop q) (Needs base lb sl v xs) base := by
  intro l J Jx w0 W js hnd hJ hL hY
  have HND := hide hnd
  have HTL := hide htl
  obtain ⟨n1, n2⟩ := hnd _ _ hJ
  obtain ⟨c0, f0⟩ := cell1 (Lie.mem hL n1)
  have hr := htl W base (Lie.mem hL n2)
  obtain ⟨A, c, rfl⟩ := hr.shape
  obtain ⟨ys, hys⟩ : ∃ ys, ys = xs.drop q := ⟨_, rfl⟩
  have hyl : xs.length - q = ys.length := by rw [hys, List.length_drop]
  rw [hyl] at c0 hr
  have hm : ys.length ≤ 1000000 := by omega
  have HYS := hide hys
  have HYL := hide hyl
  rw [← hys] at hY ⊢
  have HL := hide hL
  have HJ := hide hJ
  have HY := hide hY
  have I0 : IterInv base J w0 ys 0 W := ⟨js, hJ, hL⟩
  obtain ⟨m, hmm⟩ : ∃ m, m = ys.length := ⟨_, rfl⟩
  have HM := hide hmm
  rw [← hmm] at c0 hm
  clear hY hL hJ hnd htl hr n1 n2 hys hyl hmm
  show Calls Try.prog 58 #[.func (.yield l) #[] #[], pt lb] W _
  refine callsIn_wide.1 (callsIn_of_wp (n := 3) (F := Fence.wide) Try.func58 rfl trivial ?_ rfl)
  simp only [Try.ntmps58, List.size_toArray, List.length_cons, List.length_nil, Nat.reduceAdd, Nat.reduceSub, Array.replicate_succ, Array.replicate_zero, List.push_toArray, List.append_toArray, List.nil_append, List.cons_append]
  gi_wp2_with fail
  clear c0 f0 HJ HL
  gi_loopw [7] (fun i wr => ∃ k : Nat, k ≤ m ∧ i = .int .i64 k ∧ IterInv base J w0 ys k wr) (fun i _ => m - (intOf i).toNat)
  case atStart => exact ⟨0, by omega, rfl, I0⟩
  case round =>
    clear I0
    obtain ⟨k, hk, rfl, ks, hJ, hL⟩ := hrel
    have HL := hide hL
    have HJ := hide hJ
    obtain ⟨n1, n2⟩ := HND.out _ _ hJ
    by_cases hlt : k < m
    · have hr := HTL.out wr base (Lie.mem hL n2)
      rw [HYL.out, ← HYS.out] at hr
      have hky : k < ys.length := by have := HM.out; omega
      obtain ⟨b, o, rfl, hb, hc⟩ := cell_at ys hr (by omega)
      obtain ⟨k0, k1⟩ := hc k hky
      obtain ⟨y, hy⟩ : ∃ y, y = ys[k] := ⟨_, rfl⟩
      rw [← hy] at k0 k1
      have HYY := hide hy
      have hpre : ys.take k ++ [y] <+: ys := by
        rw [hy, ← List.take_succ_eq_append_getElem hky]
        exact List.take_prefix _ _
      have hts : Hid (ys.take (k + 1) = ys.take k ++ [y]) := hide (by rw [hy, List.take_succ_eq_append_getElem hky])
      obtain ⟨fn, tmps, assign, body, hyy, hR⟩ := HY.out (3 - 1) (ys.take k) y ks (wr.alloc (.cells #[.string y.1, vv y.2] 89)) hpre HJ.out (HL.out.skip _)
      dsimp only [att] at hyy
      have HPRE := hide hpre
      clear hc hr hL hJ n1 n2 hy hpre
      gi_wp2
      refine hR.mono ?_
      rintro e w3 ⟨js3, s3, ⟨rfl, hJ3⟩ | ⟨rfl, hJ3⟩⟩
      · have I3 : IterInv base J w0 ys (k + 1) w3 := ⟨js3, by rw [hts.out]; exact hJ3, s3⟩
        clear s3 hJ3 hyy hR
        gi_wp2
        go_roundw
        case rel => exact ⟨k + 1, by omega, by go_num, I3⟩
        case measure => simp [intOf]; omega
      · have S3 := hide s3
        have HJ3 := hide hJ3
        clear s3 hJ3 hyy hR
        gi_wp2
        refine bodyPost_ret (results_none rfl _ _ _) rfl ?_
        exact ⟨⟨_, rfl⟩, js3, S3.out, .inr ⟨_, HPRE.out, HJ3.out⟩⟩
    · obtain rfl : k = m := by omega
      clear hL hJ n1 n2
      gi_wp2
      go_end0
      exact ⟨⟨_, rfl⟩, ks, HL.out, .inl (by have := HJ.out; rwa [HM.out, List.take_length] at this)⟩
end
end Go.Proofs.Ytcaeechlpadboaa.MI
