/-
  awake: two keys, in order.
-/
import Derived.Test.YtcaeechlpadboaaM7I
namespace Go.Proofs.Ytcaeechlpadboaa
open Go.RowKit Go.Maps Go.Shelf
attribute [local go_sem] Oper.semAt_some
open MI

abbrev ka : ByteArray := ⟨#[97]⟩
abbrev kb : ByteArray := ⟨#[98]⟩
abbrev k0 : ByteArray := ⟨#[]⟩
theorem put1 : put ([] : List MI.Ent) kb 2 = [(kb, 2)] := by kernel_rfl
theorem put2 : put ([(kb, 2)] : List MI.Ent) ka 1 = [(ka, 1), (kb, 2)] := by kernel_rfl
theorem put3 : put ([(ka, 1), (kb, 2)] : List MI.Ent) kb 3 = [(ka, 1), (kb, 3)] := by kernel_rfl
theorem has1 : has ([] : List MI.Ent) kb = false := by kernel_rfl
theorem has2 : has ([(kb, 2)] : List MI.Ent) ka = false := by kernel_rfl
theorem has3 : has ([(ka, 1), (kb, 2)] : List MI.Ent) kb = true := by kernel_rfl
abbrev abl : List MI.Ent := [(ka, 1), (kb, 3)]
theorem ok0 : MI.Ok [] 3 := MI.Ok.nil.mono (by omega)
theorem ok1' : MI.Ok [(kb, 2)] 1 := by
  have h := MI.Ok.nil.put kb 2
  rw [put1] at h
  exact h
theorem ok2' : MI.Ok [(ka, 1), (kb, 2)] 2 := by
  have h := ok1'.put ka 1
  rw [put2] at h
  exact h
theorem ok1 : MI.Ok [(kb, 2)] 3 := ok1'.mono (by omega)
theorem ok2 : MI.Ok [(ka, 1), (kb, 2)] 3 := ok2'.mono (by omega)
theorem ok3 : MI.Ok abl 3 := by
  have h := ok2'.put kb 3
  rw [put3] at h
  exact h

/-- The letters of keys, one behind the other. -/
def joinKeys (pre : List MI.Ent) : ByteArray := pre.foldl (fun s x => s ++ x.1) ⟨#[]⟩
theorem joinKeys_snoc (pre : List MI.Ent) (x : MI.Ent) : joinKeys (pre ++ [x]) = joinKeys pre ++ x.1 := by simp [joinKeys]

theorem abl_pre (pre : List MI.Ent) (x : MI.Ent) (h : pre ++ [x] <+: abl.drop 0) : (pre = [] ∧ x = (ka, 1)) ∨ (pre = [(ka, 1)] ∧ x = (kb, 3)) := by
  obtain ⟨t, h⟩ := h
  match pre, h with
  | [], h => simp at h; exact .inl ⟨rfl, h.1⟩
  | [a], h => simp at h; exact .inr ⟨by rw [h.1], h.2.1⟩
  | a :: b :: pre, h => simp at h
theorem abl_size (pre : List MI.Ent) (x : MI.Ent) (h : pre ++ [x] <+: abl.drop 0) : (joinKeys pre).size + x.1.size ≤ 2 := by
  rcases abl_pre pre x h with ⟨rfl, rfl⟩ | ⟨rfl, rfl⟩ <;> exact of_decide_eq_true (by kernel_rfl)
/-- What lies there between two rounds. -/
def AwI (base T : Nat) (v : Value) (lb : Nat) (sl : Value) (sx : Nat) (pre : List MI.Ent) (js : List Thing) : Prop :=
  js = tb base T v true abl ++ [lbx lb sl, box sx (.cells #[.string (joinKeys pre)] 9 (0, 0))]
set_option maxRecDepth 100000 in
set_option maxHeartbeats 2000000 in
theorem awake_any (w : World) : Calls Try.prog 11 #[] w fun e w' => e = .returned (.bool true) ∧ Below w.heap.size w w' := by
  have S0 := hide (Lie.start w)
  have hq := fun fi ca W => run_eql_func_nil (P := Try.prog) W 42 (.func 58) fi ca Try.underlying42
  refine callsIn_wide.1 (callsIn_of_wp_marks (n := 1) (F := Fence.wide) Try.func11 rfl trivial (wpIn_wide.2 ?_) rfl)
  simp only [Try.ntmps11, List.size_toArray, List.length_nil, Nat.reduceSub, Array.replicate_succ, Array.replicate_zero, List.push_toArray, List.append_toArray, List.nil_append, List.cons_append]
  go_wp2_with fail
  refine (new_tb S0.out).mono ?_
  rintro e w1 ⟨T, v1, rfl, S1⟩
  go_wp2_with fail
  refine (set_tb kb 2 ok0 (by omega) S1.out).mono ?_
  rintro e w2 ⟨rfl, v2, S2⟩
  rw [has1]
  rw [put1] at S2
  go_wp2_with fail
  refine (set_tb ka 1 ok1 (by omega) S2.out).mono ?_
  rintro e w3 ⟨rfl, v3, S3⟩
  rw [has2]
  rw [put2] at S3
  go_wp2_with fail
  refine (set_tb kb 3 ok2 (by omega) S3.out).mono ?_
  rintro e w4 ⟨rfl, v4, S4⟩
  rw [has3]
  rw [put3] at S4
  go_wp2_with fail
  refine (len_tb ok3 (by omega) S4.out).mono ?_
  rintro e w5 ⟨rfl, S5⟩
  go_wp2_with fail
  refine (get_tb kb ok3 (by omega) S5.out).mono ?_
  rintro e w6 ⟨rfl, S6⟩
  rw [show MI.get abl kb = (3, true) by kernel_rfl]
  go_wp2_with fail
  have S8 := hide (show Lie w.heap.size w (w6.alloc (.cells #[.string k0] 9)) (tb w.heap.size T v4 false abl ++ [box w6.heap.size (.cells #[.string k0] 9 (0, 0))]) from Lie.comm (ts := [box w6.heap.size (.cells #[.string k0] 9 (0, 0))]) (us := tb w.heap.size T v4 false abl) (by simpa using S6.out.alloc (.cells #[.string k0] 9)))
  generalize w6.heap.size = sx at *
  refine (from_tb k0 ok3 (by omega) S8.out).mono ?_
  rintro e w7 ⟨lb, sl, rfl, HT, S9⟩
  rw [pos_empty] at HT
  clear S0 S1 S2 S3 S4 S5 S6 S8
  go_wp2_with fail
  refine wp_rangeFunc2 [(6, fun x => .string x.1)] (gf := 58) (lb := #[pt lb]) rfl enters1 (iter_any w.heap.size lb 0 sl v4 abl HT.out (by decide)) (AwI w.heap.size T v4 lb sl sx) (fun _ _ _ => False) (fun pre js h => by rw [h]; exact ⟨.tail _ (.tail _ (.head _)), .head _⟩) (fun t js h => h.up t js) rfl S9.out ?assign ?body ?done ?stop
  case assign =>
    intro l m x W2 K hK
    simp only [asgAct, List.foldl_cons, List.foldl_nil, List.setIfInBounds_toArray, List.set_cons_zero, List.set_cons_succ] at hK
    gi_wp2
    exact hK
  case stop =>
    rintro D c pre ks W2 _ h _
    exact h.elim
  case body =>
    clear S9
    rintro l m pre x us ks W2 hpre rfl hL
    have HL := hide hL
    have hsz := abl_size pre x hpre
    have hsz2 : ¬ 9223372036854775807 < (joinKeys pre).size + x.1.size := by omega
    obtain ⟨c0, f0⟩ := cell1 (hL.get 3 rfl)
    have hj := hide (joinKeys_snoc pre x)
    clear hL hpre
    simp only [asgAct, List.foldl_cons, List.foldl_nil, List.setIfInBounds_toArray, List.set_cons_zero, List.set_cons_succ]
    gi_wp2_with fail
    exact ⟨_, by unfold AwI; rw [hj.out], HL.out.setBox 3 rfl 0 (.string (joinKeys pre ++ x.1))⟩
  case done =>
    rintro D ks W2 rfl hL
    obtain ⟨c0, f0⟩ := cell1 (hL.get 4 rfl)
    rw [show joinKeys (abl.drop 0) = ⟨#[97, 98]⟩ by kernel_rfl] at c0
    have L6 := hide hL
    clear hL S9
    go_wp2_with fail
    have F1 := L6.out
    have hK : _ = _ := F1.get 0 rfl
    have F2 := F1.put 0 rfl (.deferred none)
    refine ⟨by simp, .inl ⟨_, _, rfl, run_takeDeferred hK, ?_⟩⟩
    exact ⟨_, results_tmp rfl _ _ _, rfl, F2.below⟩
theorem awake_L {base : Nat} {w0 w : World} {ts : List Thing} (h : Lie base w0 w ts) : Calls Try.prog 11 #[] w (MI.TL (.bool true) base w0 ts) := (awake_any w).mono fun _ _ hs => ⟨hs.1, hide (h.of_below hs.2)⟩
end Go.Proofs.Ytcaeechlpadboaa
