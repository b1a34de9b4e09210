/-
  MemKnown: the walk.
-/
import Derived.Test.YtcaeechlpadboaaAwake
namespace Go.Proofs.Ytcaeechlpadboaa
open Go.RowKit Go.Maps Go.Shelf
attribute [local go_sem] Oper.semAt_some
open MI

/-- What 's = 10*s + x' makes of values. -/
def tens (s : Int) (pre : List (ByteArray × Int)) : Int := pre.foldl (fun s x => 10 * s + x.2) s
theorem tens_snoc (s : Int) (pre : List (ByteArray × Int)) (x : ByteArray × Int) : tens s (pre ++ [x]) = 10 * tens s pre + x.2 := by simp [tens]
abbrev k_aa : ByteArray := ⟨#[97, 97]⟩
theorem posaa : pos abl k_aa = 1 := by kernel_rfl
def KnI (base T : Nat) (v : Value) (lb : Nat) (sl : Value) (sx : Nat) (s0 : Int) (rest : List Thing) (pre : List MI.Ent) (js : List Thing) : Prop :=
  js = tb base T v true abl ++ ([lbx lb sl, box sx (.cells #[.int .i64 (tens s0 pre)] 3 (0, 0))] ++ rest)
theorem kn_bd1 (pre : List (ByteArray × Int)) (x : ByteArray × Int) (h : pre ++ [x] <+: abl.drop 1) : tens 0 pre = 0 ∧ x.2 = 3 := by
  obtain ⟨t, h⟩ := h
  match pre, h with
  | [], h => simp at h; exact ⟨rfl, by rw [h.1]⟩
  | a :: pre, h => simp at h
theorem kn_bd2 (pre : List (ByteArray × Int)) (x : ByteArray × Int) (h : pre ++ [x] <+: abl.drop 0) : 0 ≤ tens 3 pre ∧ tens 3 pre ≤ 31 ∧ 0 ≤ x.2 ∧ x.2 ≤ 3 := by
  rcases abl_pre pre x h with ⟨rfl, rfl⟩ | ⟨rfl, rfl⟩ <;> simp [tens]

set_option maxRecDepth 100000 in
set_option maxHeartbeats 4000000 in
theorem known_any (w : World) : Calls Try.prog 6 #[] w fun e w' => e = .returned (.bool true) ∧ Below w.heap.size w w' := by
  have S0 := hide (Lie.start w)
  have hq := fun fi ca W => run_eql_func_nil (P := Try.prog) W 42 (.func 58) fi ca Try.underlying42
  refine callsIn_wide.1 (callsIn_of_wp_marks (n := 1) (F := Fence.wide) Try.func6 rfl trivial (wpIn_wide.2 ?_) rfl)
  simp only [Try.ntmps6, List.size_toArray, List.length_nil, Nat.reduceSub, Array.replicate_succ, Array.replicate_zero, List.push_toArray, List.append_toArray, List.nil_append, List.cons_append]
  go_wp2_with fail
  refine (new_tb S0.out).mono ?_
  rintro e w1 ⟨T, v1, rfl, S1⟩
  go_wp2_with fail
  refine (set_tb kb 2 ok0 (by omega) S1.out).mono ?_
  rintro e w2 ⟨rfl, v2, S2⟩
  rw [put1] at S2
  go_wp2_with fail
  refine (set_tb ka 1 ok1 (by omega) S2.out).mono ?_
  rintro e w3 ⟨rfl, v3, S3⟩
  rw [put2] at S3
  go_wp2_with fail
  refine (set_tb kb 3 ok2 (by omega) S3.out).mono ?_
  rintro e w4 ⟨rfl, v4, S4⟩
  rw [put3] at S4
  go_wp2_with fail
  refine (get_tb ⟨#[99]⟩ ok3 (by omega) S4.out).mono ?_
  rintro e w5 ⟨rfl, S5⟩
  rw [show MI.get abl ⟨#[99]⟩ = (0, false) by kernel_rfl]
  go_wp2_with fail
  refine (floor_tb ⟨#[97, 98]⟩ ok3 (by omega) S5.out).mono ?_
  rintro e w6 ⟨rfl, S6⟩
  rw [show MI.floor abl ⟨#[97, 98]⟩ = (ka, 1, true) by kernel_rfl]
  go_wp2_with fail
  refine (floor_tb ⟨#[65]⟩ ok3 (by omega) S6.out).mono ?_
  rintro e w7 ⟨rfl, S7⟩
  rw [show MI.floor abl ⟨#[65]⟩ = (k0, 0, false) by kernel_rfl]
  clear S0 S1 S2 S3 S4 S5 S6
  go_wp2_with fail
  have S8 := hide (show Lie w.heap.size w (w7.alloc (.cells #[.int .i64 0] 3)) (tb w.heap.size T v4 false abl ++ [box w7.heap.size (.cells #[.int .i64 0] 3 (0, 0))]) from Lie.comm (ts := [box w7.heap.size (.cells #[.int .i64 0] 3 (0, 0))]) (us := tb w.heap.size T v4 false abl) (by simpa using S7.out.alloc (.cells #[.int .i64 0] 3)))
  generalize w7.heap.size = sx at *
  refine (from_tb k_aa ok3 (by omega) S8.out).mono ?_
  rintro e w8 ⟨lb, sl, rfl, HT, S9⟩
  rw [posaa] at HT
  clear S7 S8
  go_wp2_with fail
  refine wp_rangeFunc2 [(13, fun x => vv x.2)] (gf := 58) (lb := #[pt lb]) rfl enters1 (iter_any w.heap.size lb 1 sl v4 abl HT.out (by decide)) (KnI w.heap.size T v4 lb sl sx 0 []) (fun _ _ _ => False) (fun pre js h => by rw [h]; exact ⟨.tail _ (.tail _ (.head _)), .head _⟩) (fun t js h => h.up t js) rfl S9.out ?assign ?body ?done ?stop
  case assign =>
    intro l m x W2 K hK
    simp only [asgAct, List.foldl_cons, List.foldl_nil, List.setIfInBounds_toArray, List.set_cons_zero, List.set_cons_succ] at hK
    gi_wp2
    exact hK
  case stop =>
    rintro D c pre ks W2 _ h _
    exact h.elim
  case body =>
    clear S9
    rintro l m pre x us ks W2 hpre rfl hL
    have HL := hide hL
    obtain ⟨h1, h2⟩ := kn_bd1 pre x hpre
    have hj := hide (show tens 0 (pre ++ [x]) = 3 by rw [tens_snoc, h1, h2]; rfl)
    obtain ⟨c0, f0⟩ := cell1 (hL.get 3 rfl)
    clear hL hpre
    generalize tens 0 pre = s at *
    simp only [asgAct, List.foldl_cons, List.foldl_nil, List.setIfInBounds_toArray, List.set_cons_zero, List.set_cons_succ]
    gi_wp2_with fail
    exact ⟨_, by unfold KnI; rw [hj.out], HL.out.setBox 3 rfl 0 (.int .i64 3)⟩
  case done =>
    rintro D1 ks W2 rfl hL
    have hL2 := hL.erase 3
    have L6 := hide (show Lie w.heap.size w W2 (tb w.heap.size T v4 true abl ++ [box sx (.cells #[.int .i64 3] 3 (0, 0)), box D1 (.deferred (some []))]) from Lie.comm (ts := [box D1 (.deferred (some []))]) hL2)
    clear hL hL2 S9
    go_wp2_with fail
    refine (from_tb k0 ok3 (by omega) L6.out).mono ?_
    rintro e w9 ⟨lb2, sl2, rfl, HT2, S10⟩
    rw [pos_empty] at HT2
    clear L6
    go_wp2_with fail
    refine wp_rangeFunc2 [(16, fun x => vv x.2)] (gf := 58) (lb := #[pt lb2]) rfl enters1 (iter_any w.heap.size lb2 0 sl2 v4 abl HT2.out (by decide)) (KnI w.heap.size T v4 lb2 sl2 sx 3 [box D1 (.deferred (some []))]) (fun _ _ _ => False) (fun pre js h => by rw [h]; exact ⟨.tail _ (.tail _ (.head _)), .head _⟩) (fun t js h => h.up t js) rfl S10.out ?assign ?body ?done ?stop
    case assign =>
      intro l m x W2 K hK
      simp only [asgAct, List.foldl_cons, List.foldl_nil, List.setIfInBounds_toArray, List.set_cons_zero, List.set_cons_succ] at hK
      gi_wp2
      exact hK
    case stop =>
      rintro D c pre ks W2 _ h _
      exact h.elim
    case body =>
      clear S10
      rintro l m pre x us ks W2 hpre rfl hL
      have HL := hide hL
      obtain ⟨h1, h2, h3, h4⟩ := kn_bd2 pre x hpre
      obtain ⟨xk, xv⟩ : ByteArray × Int := x
      simp only at h3 h4
      have hj := hide (show tens 3 (pre ++ [(xk, xv)]) = 10 * tens 3 pre + xv from tens_snoc 3 pre (xk, xv))
      obtain ⟨c0, f0⟩ := cell1 (hL.get 3 rfl)
      clear hL hpre
      generalize tens 3 pre = s at *
      have hw : wrap64 (10 * s + xv) = 10 * s + xv := IntWalk.wrap64_in _ (by omega)
      simp only [asgAct, List.foldl_cons, List.foldl_nil, List.setIfInBounds_toArray, List.set_cons_zero, List.set_cons_succ]
      gi_wp2_with fail
      exact ⟨_, by unfold KnI; rw [hj.out], HL.out.setBox 3 rfl 0 (.int .i64 (10 * s + xv))⟩
    case done =>
      rintro D2 ks W3 rfl hL
      have hL2 := hL.erase 3
      have L7 := hide (show Lie w.heap.size w W3 (tb w.heap.size T v4 true abl ++ [box sx (.cells #[.int .i64 313] 3 (0, 0)), box D1 (.deferred (some [])), box D2 (.deferred (some []))]) from Lie.comm (ts := [box D2 (.deferred (some []))]) hL2)
      clear hL hL2 S10
      go_wp2_with fail
      refine (awake_L L7.out).mono ?_
      rintro e w10 ⟨rfl, L8⟩
      obtain ⟨c0, f0⟩ := cell1 (L8.out.get 2 rfl)
      go_wp2_with fail
      refine (del_tb ka ok3 (by omega) L8.out).mono ?_
      rintro e w11 ⟨rfl, v5, b5, L9⟩
      rw [show has abl ka = true by kernel_rfl]
      have hd : del abl ka = [(kb, 3)] := by kernel_rfl
      have ok4 : MI.Ok [(kb, 3)] 3 := by rw [← hd]; exact ok3.del ka
      rw [hd] at L9
      clear L7 L8
      go_wp2_with fail
      refine (del_tb ka ok4 (by omega) L9.out).mono ?_
      rintro e w12 ⟨rfl, v6, b6, L10⟩
      rw [show has [((kb, 3) : MI.Ent)] ka = false by kernel_rfl]
      have hd2 : del [((kb, 3) : MI.Ent)] ka = [(kb, 3)] := by kernel_rfl
      rw [hd2] at L10
      clear L9
      go_wp2_with fail
      refine (len_tb ok4 (by omega) L10.out).mono ?_
      rintro e w13 ⟨rfl, L11⟩
      clear L10
      go_wp2_with fail
      have F1 := L11.out
      have hK : _ = _ := F1.get 4 rfl
      have F2 := F1.put 4 rfl (.deferred none)
      have hK2 : _ = _ := F2.get 3 rfl
      have F3 := F2.put 3 rfl (.deferred none)
      refine ⟨by simp, .inl ⟨_, _, rfl, run_takeDeferred hK, by simp, .inl ⟨_, _, rfl, run_takeDeferred hK2, ?_⟩⟩⟩
      exact ⟨_, results_tmp rfl _ _ _, rfl, F3.below⟩
end Go.Proofs.Ytcaeechlpadboaa
