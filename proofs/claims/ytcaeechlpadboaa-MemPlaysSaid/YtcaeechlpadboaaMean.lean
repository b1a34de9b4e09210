/-
  meanwhile: a table is asked, written, and then gone over.
-/
import Derived.Test.YtcaeechlpadboaaFromW
namespace Go.Proofs.Ytcaeechlpadboaa
open Go.RowKit Go.Maps Go.Shelf
attribute [local go_sem] Oper.semAt_some

abbrev wbx3 (b : Nat) (m : Value) : Thing := box b (.cells #[m] 26 (0, 0))
abbrev actb (b : Nat) (x : ActM) : Thing := box b (.cells #[.int .i64 x.what, .string x.key, .string x.val, .int .i64 x.n] 71 (0, 0))
abbrev nbx (b : Nat) (n : Nat) : Thing := box b (.cells #[.int .i64 n] 3 (0, 0))
theorem cell4 {w : World} {b : Nat} {u v p q : Value} {t : TypeId} (h : w.heap[b]? = some (.cells #[u, v, p, q] t (0, 0))) : w.cell? ⟨b, 0, none⟩ = some u ∧ w.cell? ⟨b, 1, none⟩ = some v ∧ w.cell? ⟨b, 2, none⟩ = some p ∧ w.cell? ⟨b, 3, none⟩ = some q := by
  simp [World.cell?, h]
/-- The table as it was written meanwhile. -/
def MwT (B : Nat) (nn : Bool) (m : Value) (k : Nat) (others js : List Thing) : Prop := ∃ xs' jt, Mt B nn m xs' jt ∧ MS.Ok xs' k ∧ js = others ++ jt
theorem MwT.in {B : Nat} {nn : Bool} {m : Value} {k : Nat} {others js : List Thing} (h : MwT B nn m k others js) {t : Thing} (ht : t ∈ others) : t ∈ js := by
  obtain ⟨xs', jt, _, _, rfl⟩ := h
  exact List.mem_append_left _ ht
theorem pref_at {α : Type} {pre ys : List α} {x : α} (h : pre ++ [x] <+: ys) : ∃ hi : pre.length < ys.length, ys[pre.length] = x := by
  have hl := h.length_le
  simp at hl
  refine ⟨by omega, ?_⟩
  have h1 : ys[pre.length]? = some x := by
    obtain ⟨t, ht⟩ := h
    rw [← ht]
    simp
  rw [List.getElem?_eq_getElem (by omega)] at h1
  exact Option.some.inj h1
theorem put_ok {xs : List MS.Ent} {n : Nat} (h : MS.Ok xs n) (nn : Bool) (key val : ByteArray) : MS.Ok (if nn then xs else put xs key val) (n + 1) := by
  cases nn with
  | true => exact h.mono (by omega)
  | false => exact h.put key val
theorem Lie.rot1 {base : Nat} {w0 w : World} {a b c : List Thing} (h : Lie base w0 w ((a ++ b) ++ c)) : Lie base w0 w (b ++ (c ++ a)) := by
  rw [List.append_assoc] at h
  have := Lie.comm h
  rwa [List.append_assoc] at this
theorem Lie.rot2 {base : Nat} {w0 w : World} {a b c : List Thing} (h : Lie base w0 w (b ++ (c ++ a))) : Lie base w0 w ((a ++ b) ++ c) := by
  rw [← List.append_assoc] at h
  have := Lie.comm h
  rwa [← List.append_assoc] at this
theorem Lie.dropL {base : Nat} {w0 w : World} {b : List Thing} : ∀ {a : List Thing}, Lie base w0 w (a ++ b) → Lie base w0 w b
  | [], h => h
  | _ :: _, h => Lie.dropL h.pop
section
variable {B : Nat} {w0 w : World} {rest js : List Thing} {nn : Bool} {m : Value} {xs : List MS.Ent} {n : Nat}
set_option maxRecDepth 100000 in
set_option maxHeartbeats 8000000 in
theorem mean_any (x : ActM) (u : Value) (hm : Mt B nn m xs js) (o : MS.Ok xs 300) (hsz : ∀ y ∈ xs, y.1.size ≤ 100000) (hu : prw B u (xs.drop (pos xs x.key)) ∈ rest) (h : Lie B w0 w (js ++ rest)) :
    Calls Try.prog 49 #[m, .agg #[.int .i64 x.what, .string x.key, .string x.val, .int .i64 x.n], u] w (MS.TL (.bool true) B w0 rest) := by
  have hq := fun fi ca W => run_eql_func_nil (P := Try.prog) W 86 (.func 73) fi ca Try.underlying86
  have OK := hide o
  have HSZ := hide hsz
  obtain ⟨mp, rfl⟩ : ∃ mp, m = .pointer mp := by
    cases nn with
    | true => exact ⟨_, hm.1⟩
    | false => obtain ⟨T, _, _, e, _⟩ := hm; exact ⟨_, e⟩
  obtain ⟨Au, cu, rfl⟩ := (Rd.of_own (MS.Lie.mem h (List.mem_append_right _ hu))).shape
  obtain ⟨yn, hyn⟩ : ∃ yn, yn = (xs.drop (pos xs x.key)).length := ⟨_, rfl⟩
  have HYN := hide hyn
  rw [← hyn] at hu ⊢
  clear hyn
  have hpre0 : pos xs x.key ≤ xs.length := pos_le _ _
  have hys : ∀ y ∈ xs.drop (pos xs x.key), y ∈ xs := fun y hy => List.mem_of_mem_drop hy
  have hyl : yn ≤ 300 := by rw [HYN.out, List.length_drop]; have := o.hn; omega
  obtain ⟨ys, hyy⟩ : ∃ ys, ys = xs.drop (pos xs x.key) := ⟨_, rfl⟩
  have HYY := hide hyy
  rw [← hyy] at hu HYN hys
  have HYS := hide hys
  have HU := hide hu
  clear hyy hys hpre0
  obtain ⟨b3, hb3⟩ : ∃ b, b = w.heap.size := ⟨_, rfl⟩
  obtain ⟨b4, hb4⟩ : ∃ b, b = w.heap.size + 1 := ⟨_, rfl⟩
  obtain ⟨b5, hb5⟩ : ∃ b, b = w.heap.size + 1 + 1 := ⟨_, rfl⟩
  obtain ⟨b6, hb6⟩ : ∃ b, b = w.heap.size + 1 + 1 + 1 := ⟨_, rfl⟩
  obtain ⟨w1, hw1⟩ : ∃ w1, w1 = (((w.alloc (.cells #[.pointer mp] 26)).alloc (.cells #[.int .i64 x.what, .string x.key, .string x.val, .int .i64 x.n] 71)).alloc (.cells #[.slice Au yn cu] 22)).alloc (.cells #[.bool false] 4) := ⟨_, rfl⟩
  have S1 : Hid (Lie B w0 w1 (js ++ ((wbx3 b3 (.pointer mp) :: actb b4 x :: wbx b5 (.slice Au yn cu) :: box b6 (.cells #[.bool false] 4 (0, 0)) :: rest)))) := hide (by
    have h1 := (((h.alloc (.cells #[.pointer mp] 26)).alloc (.cells #[.int .i64 x.what, .string x.key, .string x.val, .int .i64 x.n] 71)).alloc (.cells #[.slice Au yn cu] 22)).alloc (.cells #[.bool false] 4)
    simp only [World.size_alloc] at h1
    rw [← hb6, ← hb5, ← hb4, ← hb3, ← hw1] at h1
    refine h1.perm ?_
    refine List.Perm.trans ?_ (List.perm_append_comm_assoc [wbx3 b3 (.pointer mp), actb b4 x, wbx b5 (.slice Au yn cu), box b6 (.cells #[.bool false] 4 (0, 0))] js rest)
    exact List.Perm.append_right (js ++ rest) (l₁ := [box b6 (.cells #[.bool false] 4 (0, 0)), wbx b5 (.slice Au yn cu), actb b4 x, wbx3 b3 (.pointer mp)]) (l₂ := [wbx3 b3 (.pointer mp), actb b4 x, wbx b5 (.slice Au yn cu), box b6 (.cells #[.bool false] 4 (0, 0))]) (List.reverse_perm [wbx3 b3 (.pointer mp), actb b4 x, wbx b5 (.slice Au yn cu), box b6 (.cells #[.bool false] 4 (0, 0))]))
  have HM := hide hm
  have HB3 := hide hb3
  have HB4 := hide hb4
  have HB5 := hide hb5
  have HB6 := hide hb6
  have HW1 := hide hw1
  clear h hm o hsz hu hb3 hb4 hb5 hb6 hw1
  have AT : Hid (∀ (W : World) (ts : List Thing), Lie B w0 W ts → (∀ t, t ∈ (wbx3 b3 (.pointer mp) :: actb b4 x :: wbx b5 (.slice Au yn cu) :: box b6 (.cells #[.bool false] 4 (0, 0)) :: rest) → t ∈ ts) → W.cell? ⟨b3, 0, none⟩ = some (.pointer mp) ∧ W.cell? ⟨b4, 1, none⟩ = some (.string x.key) ∧ W.cell? ⟨b4, 2, none⟩ = some (.string x.val) ∧ W.cell? ⟨b4, 3, none⟩ = some (.int .i64 x.n) ∧ W.cell? ⟨b5, 0, none⟩ = some (.slice Au yn cu)) := hide (fun W ts hW hs => by
    have g3 := MS.Lie.mem hW (hs (wbx3 b3 (.pointer mp)) (by simp))
    have g4 := MS.Lie.mem hW (hs (actb b4 x) (by simp))
    have g5 := MS.Lie.mem hW (hs (wbx b5 (.slice Au yn cu)) (by simp))
    obtain ⟨_, a1, a2, a3⟩ := cell4 g4
    exact ⟨(cell1 g3).1, a1, a2, a3, (cell1 g5).1⟩)
  have RD : Hid (∀ (W : World) (ts : List Thing), Lie B w0 W ts → (∀ t, t ∈ (wbx3 b3 (.pointer mp) :: actb b4 x :: wbx b5 (.slice Au yn cu) :: box b6 (.cells #[.bool false] 4 (0, 0)) :: rest) → t ∈ ts) → Rd W 2 (.slice Au ys.length cu) ys.length (ys.flatMap prc)) := hide (fun W ts hW hs => by
    have := Rd.of_own (MS.Lie.mem hW (hs _ (List.mem_cons_of_mem _ (List.mem_cons_of_mem _ (List.mem_cons_of_mem _ (List.mem_cons_of_mem _ HU.out))))))
    rwa [HYN.out] at this)
  refine callsIn_wide.1 (callsIn_of_wp_marks (n := 1) (F := Fence.wide) Try.func49 rfl trivial (wpIn_wide.2 ?_) rfl)
  simp only [Try.ntmps49, List.size_toArray, List.length_cons, List.length_nil, Nat.reduceAdd, Nat.reduceSub, Array.replicate_succ, Array.replicate_zero, List.push_toArray, List.append_toArray, List.nil_append, List.cons_append]
  go_wp2_with fail
  rw [← HB6.out, ← HB5.out, ← HB4.out, ← HB3.out, ← HW1.out]
  refine (from_m x.key HM.out OK.out (by omega) S1.out).mono ?_
  rintro e w2 ⟨lb, sl, v, fs, rfl, HT, hfs, S2⟩
  obtain ⟨a3, a41, _, _, _⟩ := AT.out w2 _ S2.out (fun t ht => List.mem_append_right _ ht)
  clear S1
  go_wp2_with fail
  refine (set_fs x.key ⟨#[110, 101, 119]⟩ hfs OK.out (by omega) S2.out).mono ?_
  rintro e w3 ⟨⟨r1, rfl⟩, j1, hm1, S3⟩
  have OK1 := hide (put_ok OK.out nn x.key ⟨#[110, 101, 119]⟩)
  have HM1 := hide hm1
  clear S2 a3 a41 hfs hm1
  obtain ⟨a3, _, _, _, _⟩ := AT.out w3 _ S3.out (fun t ht => List.mem_append_right _ (List.mem_cons_of_mem _ (List.mem_cons_of_mem _ ht)))
  go_wp2_with fail
  refine (set_m ⟨#[]⟩ ⟨#[110, 101, 119]⟩ HM1.out OK1.out (by omega) S3.out).mono ?_
  rintro e w4 ⟨rfl, j2, hm2, S4⟩
  have OK2 := hide (put_ok OK1.out nn ⟨#[]⟩ ⟨#[110, 101, 119]⟩)
  have HM2 := hide hm2
  generalize (if nn then (if nn then xs else put xs x.key ⟨#[110, 101, 119]⟩) else put (if nn then xs else put xs x.key ⟨#[110, 101, 119]⟩) ⟨#[]⟩ ⟨#[110, 101, 119]⟩) = x2 at *
  clear S3 a3 hm2 HM1 OK1
  obtain ⟨a3, _, a42, _, _⟩ := AT.out w4 _ S4.out (fun t ht => List.mem_append_right _ (List.mem_cons_of_mem _ (List.mem_cons_of_mem _ ht)))
  generalize (has (if nn then xs else put xs x.key ⟨#[110, 101, 119]⟩) ⟨#[]⟩) = hb0 at *
  go_wp2_with fail
  refine (del_m x.val HM2.out OK2.out (by omega) S4.out).mono ?_
  rintro e w5 ⟨rfl, j3, hm3, S5⟩
  have OK3 := hide (OK2.out.del x.val)
  generalize del x2 x.val = x3 at *
  generalize has x2 x.val = hb1 at *
  have S6 := hide (show Lie B w0 (w5.alloc (.cells #[.int .i64 0] 3)) ((MS.rw_ B v xs :: MS.lbx lb sl :: nbx w5.heap.size 0 :: (wbx3 b3 (.pointer mp) :: actb b4 x :: wbx b5 (.slice Au yn cu) :: box b6 (.cells #[.bool false] 4 (0, 0)) :: rest)) ++ j3) from Lie.comm ((((S5.out.alloc (.cells #[.int .i64 0] 3)).perm List.perm_middle.symm).perm (List.Perm.append_left j3 (List.perm_append_comm_assoc [_] [_, _] _)))))
  have HM3 := hide hm3
  clear S4 S5 a3 a42 HM2 OK2 hm3
  go_wp2_with fail
  generalize w5.heap.size = b8 at *
  refine wp_rangeFunc2 [(9, fun x => .string x.1), (10, fun x => MS.vv x.2)] (gf := 73) (lb := #[MS.pt lb]) rfl MS.enters1 (MS.iter_any B lb (pos xs x.key) sl v xs HT.out (by have := OK.out.hn; omega)) (fun pre js => MwT B nn (.pointer mp) (400 + pre.length) (MS.rw_ B v xs :: MS.lbx lb sl :: nbx b8 pre.length :: (wbx3 b3 (.pointer mp) :: actb b4 x :: wbx b5 (.slice Au yn cu) :: box b6 (.cells #[.bool false] 4 (0, 0)) :: rest)) js) (fun c pre js => c = .exit 0 ∧ (pre.length : Int) = x.n ∧ MwT B nn (.pointer mp) (400 + pre.length) (MS.rw_ B v xs :: MS.lbx lb sl :: nbx b8 pre.length :: (wbx3 b3 (.pointer mp) :: actb b4 x :: wbx b5 (.slice Au yn cu) :: box b6 (.cells #[.bool false] 4 (0, 0)) :: rest)) js) (fun pre js h => ⟨h.in (.tail _ (.head _)), h.in (.head _)⟩) (fun t js h => h.up t js) ⟨x3, j3, HM3.out, OK3.out.mono (by omega), rfl⟩ S6.out ?assign ?body ?done ?stop
  case assign =>
    intro l m x W2 K hK
    simp only [asgAct, List.foldl_cons, List.foldl_nil, List.setIfInBounds_toArray, List.set_cons_zero, List.set_cons_succ] at hK
    gi_wp2
    exact hK
  case body =>
    clear S6
    rintro l m2 pre y us ks W2 hpre ⟨xs', jt, hmt, hok, rfl⟩ hL
    rw [← HYY.out] at hpre
    obtain ⟨hi, hy⟩ := pref_at hpre
    have hpy : pre.length < yn := by rw [HYN.out]; exact hi
    have hsy := HSZ.out y (HYS.out y (hy ▸ List.getElem_mem hi))
    have HMT := hide hmt
    have HOK := hide hok
    obtain ⟨_, _, _, a43, a5⟩ := AT.out W2 _ hL (fun t ht => List.mem_append_left _ (List.mem_append_left _ (List.mem_cons_of_mem _ (List.mem_cons_of_mem _ (List.mem_cons_of_mem _ ht)))))
    have hrd := RD.out W2 _ hL (fun t ht => List.mem_append_left _ (List.mem_append_left _ (List.mem_cons_of_mem _ (List.mem_cons_of_mem _ (List.mem_cons_of_mem _ ht)))))
    obtain ⟨b, o, rfl, hb, hc⟩ := pair_at ys hrd (by omega)
    obtain ⟨k1, k2⟩ := hc _ hi
    rw [hy] at k1 k2
    obtain ⟨n0, n1⟩ := cell1 (hL.get 2 rfl)
    have e1 : (y.1.toList == y.1.toList) = true := by simp
    have e2 : (y.2.toList == y.2.toList) = true := by simp
    have hszx : ¬ 9223372036854775807 < y.1.size + (⟨#[120]⟩ : ByteArray).size := by
      have : (⟨#[120]⟩ : ByteArray).size = 1 := rfl
      omega
    have L3 := hide (hL.setBox 2 rfl 0 (.int .i64 ((pre.length : Int) + 1)))
    have HPL : Hid ((pre ++ [y]).length = pre.length + 1) := hide (by simp)
    obtain ⟨c3, _⟩ := cell1 (L3.out.get 3 rfl)
    clear hc hrd hmt hok hpre hi hy hL
    generalize pre.length = p at *
    simp only [asgAct, List.foldl_cons, List.foldl_nil, List.setIfInBounds_toArray, List.set_cons_zero, List.set_cons_succ]
    gi_wp2_with fail
    refine ⟨trivial, fun h => (by cases h), ?_⟩
    refine (CallsIn.inRound l (callsIn_wide.2 (set_m (y.1 ++ ⟨#[120]⟩) y.2 HMT.out HOK.out (by omega) (Lie.rot1 (a := MS.rw_ B v xs :: MS.lbx lb sl :: nbx b8 (p + 1) :: (wbx3 b3 (.pointer mp) :: actb b4 x :: wbx b5 (.slice (some ⟨b, o, none⟩) yn cu) :: box b6 (.cells #[.bool false] 4 (0, 0)) :: rest)) (b := jt) (c := us) L3.out)))).mono ?_
    rintro e w6 ⟨rfl, j4, hm4, S7⟩
    have L8 := hide (Lie.rot2 S7.out)
    have OK4 := hide (put_ok HOK.out nn (y.1 ++ ⟨#[120]⟩) y.2)
    have HM4 := hide hm4
    generalize (if nn then xs' else put xs' (y.1 ++ ⟨#[120]⟩) y.2) = x4 at *
    generalize has xs' (y.1 ++ ⟨#[120]⟩) = hb2 at *
    clear S7 L3 n0 n1 a43 a5 c3 k1 k2 hm4 HMT HOK
    obtain ⟨_, _, _, a43, _⟩ := AT.out w6 _ L8.out (fun t ht => List.mem_append_left _ (List.mem_append_left _ (List.mem_cons_of_mem _ (List.mem_cons_of_mem _ (List.mem_cons_of_mem _ ht)))))
    obtain ⟨n0, _⟩ := cell1 (L8.out.get 2 rfl)
    have hp1 : ((p + 1 : Nat) : Int) = (p : Int) + 1 := rfl
    rw [hp1] at n0
    by_cases hN : (p : Int) + 1 = x.n
    · have eN : ((p : Int) + 1 == x.n) = true := beq_iff_eq.2 hN
      have HNN := hide hN
      clear hN hp1
      gi_wp2_with fail
      exact ⟨_, ⟨rfl, by rw [HPL.out]; exact HNN.out, x4, j4, HM4.out, OK4.out.mono (by rw [HPL.out]; omega), by rw [HPL.out]⟩, L8.out⟩
    · have eN : ((p : Int) + 1 == x.n) = false := beq_eq_false_iff_ne.2 hN
      clear hN hp1
      gi_wp2_with fail
      exact ⟨_, ⟨x4, j4, HM4.out, OK4.out.mono (by rw [HPL.out]; omega), by rw [HPL.out]⟩, L8.out⟩
  case done =>
    rintro D1 ks W2 ⟨x5, j5, hm5, hok5, rfl⟩ hL
    rw [← HYY.out, ← HYN.out] at hL
    have e1 : ((yn : Int) != (yn : Int)) = false := by simp
    clear S6 hm5 hok5
    obtain ⟨_, _, _, a43, a5⟩ := AT.out W2 _ hL (fun t ht => List.mem_cons_of_mem _ (List.mem_append_left _ (List.mem_cons_of_mem _ (List.mem_cons_of_mem _ (List.mem_cons_of_mem _ ht)))))
    obtain ⟨n0, n1⟩ := cell1 (hL.get 3 rfl)
    have L2 := hide (show Lie B w0 (W2.setCell ⟨b8, 0, none⟩ (.int .i64 0)) (box D1 (.deferred (some [])) :: ((MS.rw_ B v xs :: MS.lbx lb sl :: nbx b8 0 :: (wbx3 b3 (.pointer mp) :: actb b4 x :: wbx b5 (.slice Au yn cu) :: box b6 (.cells #[.bool false] 4 (0, 0)) :: rest)) ++ j5)) from hL.setBox 3 rfl 0 (.int .i64 0))
    clear hL
    go_wp2_with fail
    try clear hN2
    refine wp_rangeFunc2 [(11, fun x => .string x.1)] (gf := 73) (lb := #[MS.pt lb]) rfl MS.enters1 (MS.iter_any B lb (pos xs x.key) sl v xs HT.out (by have := OK.out.hn; omega)) (fun pre js => js = box D1 (.deferred (some [])) :: ((MS.rw_ B v xs :: MS.lbx lb sl :: nbx b8 pre.length :: (wbx3 b3 (.pointer mp) :: actb b4 x :: wbx b5 (.slice Au yn cu) :: box b6 (.cells #[.bool false] 4 (0, 0)) :: rest)) ++ j5)) (fun _ _ _ => False) (fun pre js h => by rw [h]; exact ⟨.tail _ (.tail _ (.head _)), .tail _ (.head _)⟩) (fun t js h => h.up t js) rfl L2.out ?assignA ?bodyA ?doneA ?stopA
    case assignA =>
      intro l m x W2 K hK
      simp only [asgAct, List.foldl_cons, List.foldl_nil, List.setIfInBounds_toArray, List.set_cons_zero, List.set_cons_succ] at hK
      gi_wp2
      exact hK
    case stopA =>
      rintro Dx c pre ks W2 _ h _
      exact h.elim
    case bodyA =>
      clear L2 n0 n1 a43 a5 e1
      rintro l m2 pre y us ks W3 hpre rfl hL
      rw [← HYY.out] at hpre
      obtain ⟨hi, hy⟩ := pref_at hpre
      have hpy : pre.length < yn := by rw [HYN.out]; exact hi
      obtain ⟨_, _, _, a43, a5⟩ := AT.out W3 _ hL (fun t ht => List.mem_append_left _ (List.mem_cons_of_mem _ (List.mem_append_left _ (List.mem_cons_of_mem _ (List.mem_cons_of_mem _ (List.mem_cons_of_mem _ ht))))))
      have hrd := RD.out W3 _ hL (fun t ht => List.mem_append_left _ (List.mem_cons_of_mem _ (List.mem_append_left _ (List.mem_cons_of_mem _ (List.mem_cons_of_mem _ (List.mem_cons_of_mem _ ht))))))
      obtain ⟨b, o, rfl, hb, hc⟩ := pair_at ys hrd (by omega)
      obtain ⟨k1, k2⟩ := hc _ hi
      rw [hy] at k1 k2
      obtain ⟨n0, n1⟩ := cell1 (hL.get 3 rfl)
      have e1 : (y.1.toList == y.1.toList) = true := by simp
      have L3 := hide (hL.setBox 3 rfl 0 (.int .i64 ((pre.length : Int) + 1)))
      have HPL : Hid ((pre ++ [y]).length = pre.length + 1) := hide (by simp)
      clear hc hrd hpre hi hy hL
      generalize pre.length = pq at *
      simp only [asgAct, List.foldl_cons, List.foldl_nil, List.setIfInBounds_toArray, List.set_cons_zero, List.set_cons_succ]
      gi_wp2_with fail
      refine ⟨_, rfl, ?_⟩
      rw [HPL.out]
      exact L3.out
    case doneA =>
      rintro D2 ks W4 rfl hL
      clear n0 n1 a43 a5 e1 L2
      rw [← HYY.out, ← HYN.out] at hL
      obtain ⟨_, _, _, a43, a5⟩ := AT.out W4 _ hL (fun t ht => List.mem_cons_of_mem _ (List.mem_cons_of_mem _ (List.mem_append_left _ (List.mem_cons_of_mem _ (List.mem_cons_of_mem _ (List.mem_cons_of_mem _ ht))))))
      obtain ⟨n0, n1⟩ := cell1 (hL.get 4 rfl)
      obtain ⟨r0, r1⟩ := cell1 (hL.get 8 rfl)
      have e1 : ((yn : Int) == (yn : Int)) = true := by simp
      have F1 := hL.setBox 8 rfl 0 (.bool true)
      have hK1 : _ = _ := F1.get 0 rfl
      have F2 := F1.put 0 rfl (.deferred none)
      have hK2 : _ = _ := F2.get 1 rfl
      have F3 := F2.put 1 rfl (.deferred none)
      obtain ⟨y0, _⟩ := cell1 (F3.get 8 rfl)
      have HK1 := hide (run_takeDeferred (P := Try.prog) hK1)
      have HK2 := hide (run_takeDeferred (P := Try.prog) hK2)
      have FB : Hid (Lie B w0 _ rest) := hide (Lie.dropL (a := j5) (Lie.comm (ts := rest) F3.pop.pop.pop.pop.pop.pop.pop.pop.pop))
      have Y0 := hide y0
      clear hL F1 hK1 F2 hK2 F3 y0
      go_wp2_with fail
      refine ⟨by simp, .inl ⟨_, _, rfl, HK1.out, by simp, .inl ⟨_, _, rfl, HK2.out, ?_⟩⟩⟩
      refine ⟨.bool true, ?_, rfl, FB⟩
      have y0 := Y0.out
      simp [results, Try.f49, go_sem, y0]
  case stop =>
    rintro D1 c pre ks W2 hpre ⟨rfl, hN, x5, j5, hm5, hok5, rfl⟩ hL
    clear S6 hm5 hok5
    by_cases hpy : pre.length = yn
    · rw [hpy] at hL
      have e1 : ((yn : Int) != (yn : Int)) = false := by simp
      clear hpre hN hpy
      obtain ⟨_, _, _, a43, a5⟩ := AT.out W2 _ hL (fun t ht => List.mem_cons_of_mem _ (List.mem_append_left _ (List.mem_cons_of_mem _ (List.mem_cons_of_mem _ (List.mem_cons_of_mem _ ht)))))
      obtain ⟨n0, n1⟩ := cell1 (hL.get 3 rfl)
      have L2 := hide (show Lie B w0 (W2.setCell ⟨b8, 0, none⟩ (.int .i64 0)) (box D1 (.deferred (some [])) :: ((MS.rw_ B v xs :: MS.lbx lb sl :: nbx b8 0 :: (wbx3 b3 (.pointer mp) :: actb b4 x :: wbx b5 (.slice Au yn cu) :: box b6 (.cells #[.bool false] 4 (0, 0)) :: rest)) ++ j5)) from hL.setBox 3 rfl 0 (.int .i64 0))
      clear hL
      go_wp2_with fail
      try clear hN2
      refine wp_rangeFunc2 [(11, fun x => .string x.1)] (gf := 73) (lb := #[MS.pt lb]) rfl MS.enters1 (MS.iter_any B lb (pos xs x.key) sl v xs HT.out (by have := OK.out.hn; omega)) (fun pre js => js = box D1 (.deferred (some [])) :: ((MS.rw_ B v xs :: MS.lbx lb sl :: nbx b8 pre.length :: (wbx3 b3 (.pointer mp) :: actb b4 x :: wbx b5 (.slice Au yn cu) :: box b6 (.cells #[.bool false] 4 (0, 0)) :: rest)) ++ j5)) (fun _ _ _ => False) (fun pre js h => by rw [h]; exact ⟨.tail _ (.tail _ (.head _)), .tail _ (.head _)⟩) (fun t js h => h.up t js) rfl L2.out ?assignB ?bodyB ?doneB ?stopB
      case assignB =>
        intro l m x W2 K hK
        simp only [asgAct, List.foldl_cons, List.foldl_nil, List.setIfInBounds_toArray, List.set_cons_zero, List.set_cons_succ] at hK
        gi_wp2
        exact hK
      case stopB =>
        rintro Dx c pre ks W2 _ h _
        exact h.elim
      case bodyB =>
        clear L2 n0 n1 a43 a5 e1
        rintro l m2 pre y us ks W3 hpre rfl hL
        rw [← HYY.out] at hpre
        obtain ⟨hi, hy⟩ := pref_at hpre
        have hpy : pre.length < yn := by rw [HYN.out]; exact hi
        obtain ⟨_, _, _, a43, a5⟩ := AT.out W3 _ hL (fun t ht => List.mem_append_left _ (List.mem_cons_of_mem _ (List.mem_append_left _ (List.mem_cons_of_mem _ (List.mem_cons_of_mem _ (List.mem_cons_of_mem _ ht))))))
        have hrd := RD.out W3 _ hL (fun t ht => List.mem_append_left _ (List.mem_cons_of_mem _ (List.mem_append_left _ (List.mem_cons_of_mem _ (List.mem_cons_of_mem _ (List.mem_cons_of_mem _ ht))))))
        obtain ⟨b, o, rfl, hb, hc⟩ := pair_at ys hrd (by omega)
        obtain ⟨k1, k2⟩ := hc _ hi
        rw [hy] at k1 k2
        obtain ⟨n0, n1⟩ := cell1 (hL.get 3 rfl)
        have e1 : (y.1.toList == y.1.toList) = true := by simp
        have L3 := hide (hL.setBox 3 rfl 0 (.int .i64 ((pre.length : Int) + 1)))
        have HPL : Hid ((pre ++ [y]).length = pre.length + 1) := hide (by simp)
        clear hc hrd hpre hi hy hL
        generalize pre.length = pq at *
        simp only [asgAct, List.foldl_cons, List.foldl_nil, List.setIfInBounds_toArray, List.set_cons_zero, List.set_cons_succ]
        gi_wp2_with fail
        refine ⟨_, rfl, ?_⟩
        rw [HPL.out]
        exact L3.out
      case doneB =>
        rintro D2 ks W4 rfl hL
        clear n0 n1 a43 a5 e1 L2
        rw [← HYY.out, ← HYN.out] at hL
        obtain ⟨_, _, _, a43, a5⟩ := AT.out W4 _ hL (fun t ht => List.mem_cons_of_mem _ (List.mem_cons_of_mem _ (List.mem_append_left _ (List.mem_cons_of_mem _ (List.mem_cons_of_mem _ (List.mem_cons_of_mem _ ht))))))
        obtain ⟨n0, n1⟩ := cell1 (hL.get 4 rfl)
        obtain ⟨r0, r1⟩ := cell1 (hL.get 8 rfl)
        have e1 : ((yn : Int) == (yn : Int)) = true := by simp
        have F1 := hL.setBox 8 rfl 0 (.bool true)
        have hK1 : _ = _ := F1.get 0 rfl
        have F2 := F1.put 0 rfl (.deferred none)
        have hK2 : _ = _ := F2.get 1 rfl
        have F3 := F2.put 1 rfl (.deferred none)
        obtain ⟨y0, _⟩ := cell1 (F3.get 8 rfl)
        have HK1 := hide (run_takeDeferred (P := Try.prog) hK1)
        have HK2 := hide (run_takeDeferred (P := Try.prog) hK2)
        have FB : Hid (Lie B w0 _ rest) := hide (Lie.dropL (a := j5) (Lie.comm (ts := rest) F3.pop.pop.pop.pop.pop.pop.pop.pop.pop))
        have Y0 := hide y0
        clear hL F1 hK1 F2 hK2 F3 y0
        go_wp2_with fail
        refine ⟨by simp, .inl ⟨_, _, rfl, HK1.out, by simp, .inl ⟨_, _, rfl, HK2.out, ?_⟩⟩⟩
        refine ⟨.bool true, ?_, rfl, FB⟩
        have y0 := Y0.out
        simp [results, Try.f49, go_sem, y0]
    · have e1 : ((pre.length : Int) != (yn : Int)) = true := by simp; omega
      have hN2 := hN.symm
      clear hpre hpy hN
      generalize pre.length = p at *
      obtain ⟨_, _, _, a43, a5⟩ := AT.out W2 _ hL (fun t ht => List.mem_cons_of_mem _ (List.mem_append_left _ (List.mem_cons_of_mem _ (List.mem_cons_of_mem _ (List.mem_cons_of_mem _ ht)))))
      obtain ⟨n0, n1⟩ := cell1 (hL.get 3 rfl)
      have L2 := hide (show Lie B w0 (W2.setCell ⟨b8, 0, none⟩ (.int .i64 0)) (box D1 (.deferred (some [])) :: ((MS.rw_ B v xs :: MS.lbx lb sl :: nbx b8 0 :: (wbx3 b3 (.pointer mp) :: actb b4 x :: wbx b5 (.slice Au yn cu) :: box b6 (.cells #[.bool false] 4 (0, 0)) :: rest)) ++ j5)) from hL.setBox 3 rfl 0 (.int .i64 0))
      clear hL
      go_wp2_with fail
      try clear hN2
      refine wp_rangeFunc2 [(11, fun x => .string x.1)] (gf := 73) (lb := #[MS.pt lb]) rfl MS.enters1 (MS.iter_any B lb (pos xs x.key) sl v xs HT.out (by have := OK.out.hn; omega)) (fun pre js => js = box D1 (.deferred (some [])) :: ((MS.rw_ B v xs :: MS.lbx lb sl :: nbx b8 pre.length :: (wbx3 b3 (.pointer mp) :: actb b4 x :: wbx b5 (.slice Au yn cu) :: box b6 (.cells #[.bool false] 4 (0, 0)) :: rest)) ++ j5)) (fun _ _ _ => False) (fun pre js h => by rw [h]; exact ⟨.tail _ (.tail _ (.head _)), .tail _ (.head _)⟩) (fun t js h => h.up t js) rfl L2.out ?assignC ?bodyC ?doneC ?stopC
      case assignC =>
        intro l m x W2 K hK
        simp only [asgAct, List.foldl_cons, List.foldl_nil, List.setIfInBounds_toArray, List.set_cons_zero, List.set_cons_succ] at hK
        gi_wp2
        exact hK
      case stopC =>
        rintro Dx c pre ks W2 _ h _
        exact h.elim
      case bodyC =>
        clear L2 n0 n1 a43 a5 e1
        rintro l m2 pre y us ks W3 hpre rfl hL
        rw [← HYY.out] at hpre
        obtain ⟨hi, hy⟩ := pref_at hpre
        have hpy : pre.length < yn := by rw [HYN.out]; exact hi
        obtain ⟨_, _, _, a43, a5⟩ := AT.out W3 _ hL (fun t ht => List.mem_append_left _ (List.mem_cons_of_mem _ (List.mem_append_left _ (List.mem_cons_of_mem _ (List.mem_cons_of_mem _ (List.mem_cons_of_mem _ ht))))))
        have hrd := RD.out W3 _ hL (fun t ht => List.mem_append_left _ (List.mem_cons_of_mem _ (List.mem_append_left _ (List.mem_cons_of_mem _ (List.mem_cons_of_mem _ (List.mem_cons_of_mem _ ht))))))
        obtain ⟨b, o, rfl, hb, hc⟩ := pair_at ys hrd (by omega)
        obtain ⟨k1, k2⟩ := hc _ hi
        rw [hy] at k1 k2
        obtain ⟨n0, n1⟩ := cell1 (hL.get 3 rfl)
        have e1 : (y.1.toList == y.1.toList) = true := by simp
        have L3 := hide (hL.setBox 3 rfl 0 (.int .i64 ((pre.length : Int) + 1)))
        have HPL : Hid ((pre ++ [y]).length = pre.length + 1) := hide (by simp)
        clear hc hrd hpre hi hy hL
        generalize pre.length = pq at *
        simp only [asgAct, List.foldl_cons, List.foldl_nil, List.setIfInBounds_toArray, List.set_cons_zero, List.set_cons_succ]
        gi_wp2_with fail
        refine ⟨_, rfl, ?_⟩
        rw [HPL.out]
        exact L3.out
      case doneC =>
        rintro D2 ks W4 rfl hL
        clear n0 n1 a43 a5 e1 L2
        rw [← HYY.out, ← HYN.out] at hL
        obtain ⟨_, _, _, a43, a5⟩ := AT.out W4 _ hL (fun t ht => List.mem_cons_of_mem _ (List.mem_cons_of_mem _ (List.mem_append_left _ (List.mem_cons_of_mem _ (List.mem_cons_of_mem _ (List.mem_cons_of_mem _ ht))))))
        obtain ⟨n0, n1⟩ := cell1 (hL.get 4 rfl)
        obtain ⟨r0, r1⟩ := cell1 (hL.get 8 rfl)
        have e1 : ((yn : Int) == (yn : Int)) = true := by simp
        have F1 := hL.setBox 8 rfl 0 (.bool true)
        have hK1 : _ = _ := F1.get 0 rfl
        have F2 := F1.put 0 rfl (.deferred none)
        have hK2 : _ = _ := F2.get 1 rfl
        have F3 := F2.put 1 rfl (.deferred none)
        obtain ⟨y0, _⟩ := cell1 (F3.get 8 rfl)
        have HK1 := hide (run_takeDeferred (P := Try.prog) hK1)
        have HK2 := hide (run_takeDeferred (P := Try.prog) hK2)
        have FB : Hid (Lie B w0 _ rest) := hide (Lie.dropL (a := j5) (Lie.comm (ts := rest) F3.pop.pop.pop.pop.pop.pop.pop.pop.pop))
        have Y0 := hide y0
        clear hL F1 hK1 F2 hK2 F3 y0
        go_wp2_with fail
        refine ⟨by simp, .inl ⟨_, _, rfl, HK1.out, by simp, .inl ⟨_, _, rfl, HK2.out, ?_⟩⟩⟩
        refine ⟨.bool true, ?_, rfl, FB⟩
        have y0 := Y0.out
        simp [results, Try.f49, go_sem, y0]
end
end Go.Proofs.Ytcaeechlpadboaa
