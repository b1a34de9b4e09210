/-
  Other: what a function makes of a table.
-/
import Derived.Test.YtcaeechlpadboaaTbl
import Derived.Test.YtcaeechlpadboaaM7S
namespace Go.Proofs.Ytcaeechlpadboaa.OIS
open Go.RowKit Go.Maps Go.Shelf
attribute [local go_sem] Oper.semAt_some

/-- What comes of the first so many. -/
def oth (fx : MI.Ent → MS.V × Bool) (pre : List MI.Ent) : List MS.Ent := pre.foldl (fun o x => if (fx x).2 then put o x.1 (fx x).1 else o) []
theorem oth_snoc (fx : MI.Ent → MS.V × Bool) (pre : List MI.Ent) (x : MI.Ent) : oth fx (pre ++ [x]) = if (fx x).2 then put (oth fx pre) x.1 (fx x).1 else oth fx pre := by simp [oth]
theorem snoc_ind {α : Type} {Q : List α → Prop} (h0 : Q []) (hs : ∀ l x, Q l → Q (l ++ [x])) (l : List α) : Q l := by
  have h : ∀ r : List α, Q r.reverse := fun r => by
    induction r with
    | nil => exact h0
    | cons x r ih => rw [List.reverse_cons]; exact hs _ _ ih
  have := h l.reverse
  rwa [List.reverse_reverse] at this
theorem put_last {α : Type} (o : List (ByteArray × α)) (k : ByteArray) (v : α) (hs : ∀ y ∈ o, kc y.1 k < 0) : put o k v = o ++ [(k, v)] := by
  have hp : pos o k = o.length := by
    unfold pos
    rw [List.countP_eq_length]
    intro y hy
    simpa using hs y hy
  have hh : has o k = false := by
    rw [Bool.eq_false_iff]
    intro h
    unfold has at h
    rw [List.any_eq_true] at h
    obtain ⟨y, hy, e⟩ := h
    have h1 := hs y hy
    rw [of_decide_eq_true e] at h1
    exact kc_irrefl h1
  unfold put
  rw [hp, hh, List.take_length]
  simp
/-- Those that it lets stand, in their order. -/
theorem oth_is (fx : MI.Ent → MS.V × Bool) (pre : List MI.Ent) (hs : Srt pre) : oth fx pre = (pre.filter fun x => (fx x).2).map fun x => (x.1, (fx x).1) := by
  revert hs
  refine snoc_ind (Q := fun pre => Srt pre → oth fx pre = (pre.filter fun x => (fx x).2).map fun x => (x.1, (fx x).1)) (fun _ => rfl) (fun pre x ih hs => ?_) pre
  · have hs' := List.pairwise_append.1 hs
    have ih := ih hs'.1
    rw [oth_snoc, ih]
    by_cases h : (fx x).2 = true
    · rw [if_pos h, put_last]
      · simp [h]
      · intro y hy
        rw [List.mem_map] at hy
        obtain ⟨z, hz, rfl⟩ := hy
        exact hs'.2.2 z (List.mem_filter.1 hz).1 x (by simp)
    · rw [if_neg h]
      simp [h]
theorem oth_srt (fx : MI.Ent → MS.V × Bool) (pre : List MI.Ent) (hs : Srt pre) : Srt (oth fx pre) := by
  rw [oth_is fx pre hs]
  exact List.pairwise_map.2 (hs.filter _)
theorem oth_le (fx : MI.Ent → MS.V × Bool) (pre : List MI.Ent) (hs : Srt pre) : (oth fx pre).length ≤ pre.length := by
  rw [oth_is fx pre hs, List.length_map]
  exact List.length_filter_le _ _

abbrev fnv (c0 : Nat) : Value := .func (.func 26) #[] #[MI.pt c0]
/-- What lies there between two rounds. -/
def OtI (base T : Nat) (v : Value) (xs : List MI.Ent) (lb : Nat) (sl : Value) (fb ob To : Nat) (c0 : Nat) (fx : MI.Ent → MS.V × Bool) (G : List MI.Ent → List Thing → Prop) (rest : List Thing) (pre : List MI.Ent) (js : List Thing) : Prop :=
  ∃ vo gs, G pre gs ∧ js = [MI.rw_ base v xs, box T (MI.mobj v true), MI.lbx lb sl, box fb (.cells #[fnv c0] 50 (0, 0)), box ob (.cells #[MS.pt To] 26 (0, 0)), MS.rw_ base vo (oth fx pre), box To (MS.mobj vo false)] ++ (gs ++ rest)

set_option maxRecDepth 100000 in
set_option maxHeartbeats 4000000 in
theorem other_any {base : Nat} {w0 w : World} {rest : List Thing} {T n : Nat} {v : Value} {lent : Bool} {xs : List MI.Ent} (o : MI.Ok xs n) (hn : n ≤ 50000) (c0 : Nat) (fx : MI.Ent → MS.V × Bool) (G : List MI.Ent → List Thing → Prop) (gs0 : List Thing) (hg0 : G [] gs0)
    (hf : ∀ pre x gs others W, pre ++ [x] <+: xs → G pre gs → Lie base w0 W (gs ++ others) → Calls Try.prog 26 #[.string x.1, MI.vv x.2, MI.pt c0] W fun e w' => e = .returned (.tuple #[MS.vv (fx x).1, .bool (fx x).2]) ∧ ∃ gs', G (pre ++ [x]) gs' ∧ Hid (Lie base w0 w' (gs' ++ others)))
    (h : Lie base w0 w (MI.tb base T v lent xs ++ (gs0 ++ rest))) :
    Calls Try.prog 25 #[MI.pt T, fnv c0] w fun e w' => ∃ To vo gs, e = .returned (MS.pt To) ∧ G xs gs ∧ Hid (Lie base w0 w' (MI.tb base T v true xs ++ (MS.tb base To vo false (oth fx xs) ++ (gs ++ rest)))) := by
  have H := hide h
  have HF := hide hf
  have HO := hide o
  clear h hf
  have S1 := hide (Lie.tuck H.out (.cells #[fnv c0] 50))
  refine callsIn_wide.1 (callsIn_of_wp_marks (n := 1) (F := Fence.wide) Try.func25 rfl trivial (wpIn_wide.2 ?_) rfl)
  simp only [Try.ntmps25, List.size_toArray, List.length_cons, List.length_nil, Nat.reduceAdd, Nat.reduceSub, Array.replicate_succ, Array.replicate_zero, List.push_toArray, List.append_toArray, List.nil_append, List.cons_append]
  go_wp2_with fail
  generalize w.heap.size = fb at *
  refine (MS.new_tb S1.out).mono ?_
  rintro e w1 ⟨To, vo, rfl, S2⟩
  clear S1 H
  have S3 := hide (show Lie base w0 (w1.alloc (.cells #[MS.pt To] 26)) (MI.tb base T v lent xs ++ (box fb (.cells #[fnv c0] 50 (0, 0)) :: box w1.heap.size (.cells #[MS.pt To] 26 (0, 0)) :: MS.rw_ base vo [] :: box To (MS.mobj vo false) :: (gs0 ++ rest))) from
    (S2.out.alloc (.cells #[MS.pt To] 26)).perm (List.perm_append_comm_assoc [box w1.heap.size (.cells #[MS.pt To] 26 (0, 0)), MS.rw_ base vo [], box To (MS.mobj vo false)] [MI.rw_ base v xs, box T (MI.mobj v lent), box fb (.cells #[fnv c0] 50 (0, 0))] (gs0 ++ rest)))
  go_wp2_with fail
  generalize w1.heap.size = ob at *
  refine (MI.from_tb k0 HO.out (by omega) S3.out).mono ?_
  rintro e w2 ⟨lb, sl, rfl, HT, S4⟩
  rw [MI.pos_empty] at HT
  clear S2 S3
  go_wp2_with fail
  refine wp_rangeFunc2 [(6, fun x => .string x.1), (7, fun x => MI.vv x.2)] (gf := 58) (lb := #[MI.pt lb]) rfl MI.enters1 (MI.iter_any base lb 0 sl v xs HT.out (by have := HO.out.hn; omega)) (OtI base T v xs lb sl fb ob To c0 fx G rest) (fun _ _ _ => False) (fun pre js h => by obtain ⟨vo, gs, _, rfl⟩ := h; exact ⟨.tail _ (.tail _ (.head _)), .head _⟩) (fun t js h => h.up t js) ⟨vo, gs0, hg0, rfl⟩ S4.out ?assign ?body ?done ?stop
  case assign =>
    intro l m x W2 K hK
    simp only [asgAct, List.foldl_cons, List.foldl_nil, List.setIfInBounds_toArray, List.set_cons_zero, List.set_cons_succ] at hK
    gi_wp2
    exact hK
  case stop =>
    rintro D c pre ks W2 _ h _
    exact h.elim
  case body =>
    clear S4
    rintro l m pre x us ks W2 hpre ⟨vo, gs, hgs, rfl⟩ hL
    rw [List.append_assoc, List.append_assoc] at hL
    have hosn := oth_snoc fx pre x
    have hpx : pre <+: xs := (List.prefix_append pre [x]).trans hpre
    have hsp : Srt pre := HO.out.hs.sublist hpx.sublist
    have ho : MS.Ok (oth fx pre) n := ⟨oth_srt fx pre hsp, by have := oth_le fx pre hsp; have := hpx.length_le; have := HO.out.hn; omega⟩
    have hcall := HF.out pre x gs _ W2 hpre hgs (hL.perm (List.perm_append_comm_assoc _ _ _))
    have HC := hide hcall
    have HON := hide hosn
    have HK := hide ho
    obtain ⟨c3, f3⟩ := cell1 (hL.get 3 rfl)
    clear hL hpre hpx hsp hcall hosn ho hgs
    simp only [asgAct, List.foldl_cons, List.foldl_nil, List.setIfInBounds_toArray, List.set_cons_zero, List.set_cons_succ]
    gi_wp2_with fail
    refine ⟨trivial, fun h => (by cases h), ?_⟩
    refine (CallsIn.inRound l (callsIn_wide.2 HC.out)).mono ?_
    rintro e w5 ⟨rfl, gs', hgs', L5⟩
    have HG := hide hgs'
    have L6 := hide (L5.out.perm (List.perm_append_comm_assoc gs' _ _))
    clear L5 c3 f3 HC hgs'
    obtain ⟨c4, f4⟩ := cell1 (L6.out.get 4 rfl)
    by_cases hx : (fx x).2 = true
    · have HON2 := hide (HON.out.trans (if_pos hx))
      have hset := MS.set_any (j := 6) (k := 5) x.1 (fx x).1 ⟨rfl, rfl, HK.out.hs, by have := HK.out.hn; omega⟩ L6.out (by have := HK.out.hn; omega)
      have HSET := hide hset
      rw [hx]
      clear HON hset
      gi_wp2_with fail
      refine ⟨trivial, fun h => (by cases h), ?_⟩
      refine (CallsIn.inRound l (callsIn_wide.2 HSET.out)).mono ?_
      rintro e w6 ⟨rfl, vo2, L7⟩
      have fin : Hid (∃ js, OtI base T v xs lb sl fb ob To c0 fx G rest (pre ++ [x]) js ∧ Lie base w0 w6 (js ++ us)) := hide ⟨_, ⟨vo2, gs', HG.out, rfl⟩, by
        rw [HON2.out, List.append_assoc, List.append_assoc]
        exact L7.out⟩
      clear L6 L7 HSET c4 f4 HK HON2
      gi_wp2_with fail
      exact fin.out
    · have hxf := Bool.eq_false_iff.2 hx
      have HON2 := hide (HON.out.trans (if_neg hx))
      rw [hxf]
      have fin : Hid (∃ js, OtI base T v xs lb sl fb ob To c0 fx G rest (pre ++ [x]) js ∧ Lie base w0 w5 (js ++ us)) := hide ⟨_, ⟨vo, gs', HG.out, rfl⟩, by
        rw [HON2.out, List.append_assoc, List.append_assoc]
        exact L6.out⟩
      clear L6 HON HON2 c4 f4 HK
      gi_wp2_with fail
      exact fin.out
  case done =>
    rintro D ks W2 ⟨vo, gs, hgs, rfl⟩ hL
    rw [List.drop_zero] at hL hgs
    have HG := hide hgs
    obtain ⟨c4, f4⟩ := cell1 (hL.get 5 rfl)
    have hK : _ = _ := hL.get 0 rfl
    have h2 := (((hL.put 0 rfl (.deferred none)).pop.erase 2).erase 2).erase 2
    have fin := hide h2
    have HKK := hide (run_takeDeferred (P := Try.prog) hK)
    clear hL hK S4 h2 hgs
    go_wp2_with fail
    refine ⟨by simp, .inl ⟨_, _, rfl, HKK.out, ?_⟩⟩
    exact ⟨_, results_tmp rfl _ _ _, To, vo, gs, rfl, HG.out, fin⟩
end Go.Proofs.Ytcaeechlpadboaa.OIS
