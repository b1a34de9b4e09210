/-
  from: what is gone over, as pairs.
-/
import Derived.Test.YtcaeechlpadboaaMt
import Derived.Test.YtcaeechlpadboaaStill
namespace Go.Proofs.Ytcaeechlpadboaa
open Go.RowKit Go.Maps Go.Shelf
attribute [local go_sem] Oper.semAt_some

abbrev prw (B : Nat) (v : Value) (ys : List Pr) : Thing := row B 25 2 v ys.length (ys.flatMap prc)
abbrev wbx (ab : Nat) (v : Value) : Thing := box ab (.cells #[v] 22 (0, 0))
theorem Lie.moreP {base : Nat} {w0 w w2 : World} {ab : Nat} {va v' : Value} {ys : List Pr} {x : Pr} {others : List Thing} (h : Lie base w0 w (wbx ab va :: prw base va ys :: others)) (ho : w2.ownsRow base 25 2 v' (ys.length + 1) (ys.flatMap prc ++ prc x)) (t : Turn (fun k => va.ownBlock = some k) w w2) (hn : Newer w va v') :
    Lie base w0 w2 (wbx ab va :: prw base v' (ys ++ [x]) :: others) :=
  h.step 1 (t' := prw base v' (ys ++ [x])) rfl t (ownsRow_snoc ho) (fun k hk => hn k hk)
/-- Between two rounds. -/
def FrI (B ab : Nat) (fr : List Thing) (pre : List MS.Ent) (js : List Thing) : Prop := ∃ va, js = wbx ab va :: prw B va pre :: fr
section
variable {B : Nat} {w0 w : World} {rest js : List Thing} {nn : Bool} {m : Value} {xs : List MS.Ent} {n : Nat}
set_option maxRecDepth 100000 in
set_option maxHeartbeats 8000000 in
theorem fromf_any (key : ByteArray) (hm : Mt B nn m xs js) (o : MS.Ok xs n) (hn : n ≤ 9999) (h : Lie B w0 w (js ++ rest)) :
    Calls Try.prog 46 #[m, .string key] w fun e w' => ∃ v' js', e = .returned v' ∧ Mt B nn m xs js' ∧ Hid (Lie B w0 w' (js' ++ (prw B v' (xs.drop (pos xs key)) :: rest))) := by
  have hq := fun fi ca W => run_eql_func_nil (P := Try.prog) W 86 (.func 73) fi ca Try.underlying86
  obtain ⟨i0, hi0, hz0, hz1, hz2⟩ := info_parts info25
  have hxl := o.hn
  have OK := hide o
  obtain ⟨ab, hab⟩ : ∃ ab, ab = w.heap.size := ⟨_, rfl⟩
  have S1 : Hid (Lie B w0 (w.alloc (.cells #[.slice none 0 0] 22)) (js ++ (wbx ab (.slice none 0 0) :: rest))) := hide (by rw [hab]; exact (h.alloc (.cells #[.slice none 0 0] 22)).perm List.perm_middle.symm)
  have HF := hide (from_m key hm o (by omega) S1.out)
  have HAB := hide hab
  clear h hm o hab S1
  refine callsIn_wide.1 (callsIn_of_wp_marks (n := 1) (F := Fence.wide) Try.func46 rfl trivial (wpIn_wide.2 ?_) rfl)
  simp only [Try.ntmps46, List.size_toArray, List.length_cons, List.length_nil, Nat.reduceAdd, Nat.reduceSub, Array.replicate_succ, Array.replicate_zero, List.push_toArray, List.append_toArray, List.nil_append, List.cons_append]
  go_wp2_with fail
  rw [← HAB.out]
  refine HF.out.mono ?_
  rintro e w1 ⟨lb, sl, v, fs, rfl, HT, hfs, S2⟩
  have HFS := hide hfs
  have S3 : Hid (Lie B w0 w1 (wbx ab (.slice none 0 0) :: prw B (.slice none 0 0) [] :: (fs ++ rest))) := hide (((S2.out.perm List.perm_middle).push (t := prw B (.slice none 0 0) []) (Turn.refl _ _) (World.ownsRow_nil _ _ _ _) (fun _ hk => by cases hk)).swap)
  clear HF S2 hfs
  go_wp2_with fail
  refine wp_rangeFunc2 [(7, fun x => .string x.1), (8, fun x => MS.vv x.2)] (gf := 73) (lb := #[MS.pt lb]) rfl MS.enters1 (MS.iter_any B lb (pos xs key) sl v xs HT.out (by omega)) (FrI B ab (fs ++ rest)) (fun _ _ _ => False) (fun pre js h => by obtain ⟨va, rfl⟩ := h; exact ⟨List.mem_cons_of_mem _ (List.mem_cons_of_mem _ (List.mem_append_left _ HFS.out.mem.1)), List.mem_cons_of_mem _ (List.mem_cons_of_mem _ (List.mem_append_left _ HFS.out.mem.2))⟩) (fun t js h => h.up t js) ⟨_, rfl⟩ S3.out ?assign ?body ?done ?stop
  case assign =>
    intro l m x W2 K hK
    simp only [asgAct, List.foldl_cons, List.foldl_nil, List.setIfInBounds_toArray, List.set_cons_zero, List.set_cons_succ] at hK
    gi_wp2
    exact hK
  case stop =>
    rintro D c pre ks W2 _ h _
    exact h.elim
  case body =>
    clear S3
    rintro l m2 pre x us ks W2 hpre ⟨va, rfl⟩ hL
    have hpn : pre.length ≤ 9999 := by have h1 := hpre.length_le; simp at h1; omega
    have hown := hL.get 1 rfl
    obtain ⟨A2, c2, rfl⟩ := (Rd.of_own hown).shape
    obtain ⟨a0, b0⟩ := cell1 (hL.get 0 rfl)
    have OWN : Hid (W2.ownsRow B 25 2 (.slice A2 pre.length c2) pre.length (pre.flatMap prc)) := hide hown
    have H := hide hL
    have hb := hL.base_le
    clear hL hpre hown
    simp only [asgAct, List.foldl_cons, List.foldl_nil, List.setIfInBounds_toArray, List.set_cons_zero, List.set_cons_succ]
    gi_wp2_with (gi_at_builtin; refine wpListIn_append1 rfl (.tmp 17) (.tmp 21) 22 rfl B 25 i0 _ 2 32 Try.underlying22 hi0 hz0 hz1 hz2 rfl (by decide) (.slice A2 pre.length c2) pre.length _ (by simp [Act.eval]) OWN.out (prc x) (by simp [Act.eval]) rfl (prc_one _) (by omega) (by omega) hb ?_; intro v' w2 ho t2 hnw; obtain ⟨A', c', rfl⟩ := (Rd.of_own ho).shape; have L3 := hide (Lie.moreP H.out ho t2 hnw); obtain ⟨d0, g0⟩ := cell1 (L3.out.get 0 rfl); have L4 := hide (L3.out.setBox 0 rfl 0 (.slice A' (pre.length + 1) c')); clear ho t2 hnw)
    exact ⟨_, ⟨_, rfl⟩, L4.out⟩
  case done =>
    rintro D ks W2 ⟨va, rfl⟩ hL
    obtain ⟨a0, _⟩ := cell1 (hL.get 1 rfl)
    have hK : _ = _ := hL.get 0 rfl
    have F1 := hL.put 0 rfl (.deferred none)
    obtain ⟨js', hm', F2⟩ := HFS.out.back ((F1.pop.pop).perm List.perm_middle.symm)
    have HK := hide (run_takeDeferred (P := Try.prog) hK)
    have HM := hide hm'
    have FB := hide F2
    clear hL hK F1 F2 hm' S3
    go_wp2_with fail
    refine ⟨by simp, .inl ⟨_, _, rfl, HK.out, ?_⟩⟩
    exact ⟨_, results_tmp rfl _ _ _, va, js', rfl, HM.out, FB⟩
end
end Go.Proofs.Ytcaeechlpadboaa
