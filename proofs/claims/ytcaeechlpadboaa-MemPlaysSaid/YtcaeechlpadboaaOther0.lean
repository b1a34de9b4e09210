/-
  Other of no table.
-/
import Derived.Test.YtcaeechlpadboaaMOSI
namespace Go.Proofs.Ytcaeechlpadboaa.OSI
open Go.RowKit Go.Maps Go.Shelf
attribute [local go_sem] Oper.semAt_some

/-- What lies there: nothing to go over. -/
def NilI (base : Nat) (vo : Value) (lb fb ob To : Nat) (c0 c1 c2 c3 : Nat) (rest : List Thing) (_ : List MS.Ent) (js : List Thing) : Prop :=
  js = [MS.rw_ base (.slice none 0 0) [], MS.lbx lb (.slice none 0 0), box ob (.cells #[MI.pt To] 33 (0, 0)), MI.rw_ base vo [], box To (MI.mobj vo false), box fb (.cells #[fnv c0 c1 c2 c3] 32 (0, 0))] ++ rest

set_option maxRecDepth 100000 in
set_option maxHeartbeats 4000000 in
theorem other_nil {base : Nat} {w0 w : World} {rest : List Thing} (c0 c1 c2 c3 : Nat) (h : Lie base w0 w rest) :
    Calls Try.prog 17 #[.pointer none, fnv c0 c1 c2 c3] w fun e w' => ∃ To vo, e = .returned (MI.pt To) ∧ Hid (Lie base w0 w' (MI.tb base To vo false [] ++ rest)) := by
  have S1 := hide (h.alloc (.cells #[fnv c0 c1 c2 c3] 32))
  clear h
  refine callsIn_wide.1 (callsIn_of_wp_marks (n := 1) (F := Fence.wide) Try.func17 rfl trivial (wpIn_wide.2 ?_) rfl)
  simp only [Try.ntmps17, List.size_toArray, List.length_cons, List.length_nil, Nat.reduceAdd, Nat.reduceSub, Array.replicate_succ, Array.replicate_zero, List.push_toArray, List.append_toArray, List.nil_append, List.cons_append]
  go_wp2_with fail
  generalize w.heap.size = fb at *
  refine (MI.new_tb S1.out).mono ?_
  rintro e w1 ⟨To, vo, rfl, S2⟩
  clear S1
  have S3 := hide (S2.out.alloc (.cells #[MI.pt To] 33))
  go_wp2_with fail
  generalize w1.heap.size = ob at *
  refine (MS.from_nil k0 S3.out).mono ?_
  rintro e w2 ⟨lb, rfl, S4⟩
  have S5 := hide (S4.out.push (t := MS.rw_ base (.slice none 0 0) []) (Turn.refl _ _) (World.ownsRow_nil _ _ _ _) (fun _ hk => by cases hk))
  clear S2 S3 S4
  go_wp2_with fail
  refine wp_rangeFunc2 [(6, fun x => .string x.1), (7, fun x => MS.vv x.2)] (gf := 73) (lb := #[MS.pt lb]) rfl MS.enters1 (MS.iter_any base lb 0 (.slice none 0 0) (.slice none 0 0) [] (MS.tail_nil [] rfl 0) (by simp)) (NilI base vo lb fb ob To c0 c1 c2 c3 rest) (fun _ _ _ => False) (fun pre js h => by cases h; exact ⟨.tail _ (.head _), .head _⟩) (fun t js h => h.up t js) rfl S5.out ?assign ?body ?done ?stop
  case assign =>
    intro l m x W2 K hK
    simp only [asgAct, List.foldl_cons, List.foldl_nil, List.setIfInBounds_toArray, List.set_cons_zero, List.set_cons_succ] at hK
    gi_wp2
    exact hK
  case stop =>
    rintro D c pre ks W2 _ h _
    exact h.elim
  case body =>
    rintro l m pre x us ks W2 hpre _ _
    obtain ⟨s, hs⟩ := hpre
    simp at hs
  case done =>
    rintro D ks W2 rfl hL
    obtain ⟨c4, f4⟩ := cell1 (hL.get 3 rfl)
    have hK : _ = _ := hL.get 0 rfl
    have h2 : Lie base w0 (W2.putObj D (.deferred none)) (MI.tb base To vo false [] ++ rest) := ((((hL.put 0 rfl (.deferred none)).pop.pop.pop.pop).erase 2))
    have fin := hide h2
    have HKK := hide (run_takeDeferred (P := Try.prog) hK)
    clear hL hK S5 h2
    go_wp2_with fail
    refine ⟨by simp, .inl ⟨_, _, rfl, HKK.out, ?_⟩⟩
    exact ⟨_, results_tmp rfl _ _ _, To, vo, rfl, fin⟩
end Go.Proofs.Ytcaeechlpadboaa.OSI
