/-
  Two values alike?
-/
import Derived.Test.YtnljdcghaecdaaaGreatDoorOf
import Derived.Test.YtnljdcghaecdaaaGreatDoorCheck
import Derived.Laws.Bits64
import Derived.Deep.RegionHeld3
import Derived.Laws.StructEq
/-
  What finds records by name.
-/
namespace Go.Proofs.YtnljdcghaecdaaaGreatDoor
open Go.RowKit Go.Lib Go.Maps
attribute [local go_sem] Oper.semAt_some

def zeroR : RecD := ⟨⟨#[]⟩, false, [], .slice none 0 0⟩
def frOf (rs : List RecD) (x : ByteArray) : RecD := (rs.reverse.find? (fun r => decide (r.name = x))).getD zeroR
def mapv (rs : List RecD) : ByteArray → Value := fun x => recv (frOf rs x)
theorem frOf_next {rs : List RecD} {k : Nat} (hk : k < rs.length) {r : RecD} (hr : Hid (r = rs[k])) : mapv (rs.take (k + 1)) = upd (mapv (rs.take k)) r.name (recv r) := by
  funext x
  unfold mapv upd frOf
  rw [List.take_succ_eq_append_getElem hk, ← hr.out]
  simp only [List.reverse_append, List.reverse_cons, List.reverse_nil, List.nil_append, List.cons_append, List.find?_cons]
  by_cases e : x = r.name
  · subst e; simp
  · have e2 : ¬ r.name = x := fun h => e h.symm
    simp [e, e2]
theorem frOf_mem (rs : List RecD) (x : ByteArray) : frOf rs x ∈ rs ∨ frOf rs x = zeroR := by
  unfold frOf
  cases h : rs.reverse.find? (fun r => decide (r.name = x)) with
  | none => exact .inr rfl
  | some r => exact .inl (by simpa using List.mem_of_find?_eq_some h)
abbrev rmap (mb n : Nat) (rs : List RecD) : Thing := mpt mb n (recv zeroR) (mapv rs)
theorem zero61 (w : World) : (zeroValue 61).run Tryz.prog w = .ok (recv zeroR) w := by kernel_rfl
def FnrTo (rs : List RecD) (w : World) (e : Ending) (w' : World) : Prop := ∃ (m3 mb n : Nat), e = .returned (.func (.func 53) #[] #[.pointer (some ⟨m3, 0, none⟩)]) ∧ Hid (Lie w.heap.size w w' [box m3 (.cells #[.map (some mb)] 118 (0, 0)), rmap mb n rs])
set_option maxRecDepth 100000 in
set_option maxHeartbeats 4000000 in
theorem finder_any (s : SchD) (w : World) (h : SchAt w s) (g : GSch s) : Calls Tryz.prog 29 #[schv s] w (FnrTo s.rs w) := by
  obtain ⟨Ar, nr, cr, Av, nv, cv, Ag, ng, cg, ev, HSR, HSV, HSG, HGR, HGV, HGG, hnr, hnv, hng⟩ := sch_in s h g
  rw [ev]
  obtain ⟨w1, r, SB, HW, HR, HSB, S1⟩ := lay (hide (Lie.start w)) (.cells #[.string s.name, .slice Ar nr cr, .slice Av nv cv, .slice Ag ng cg] 26)
  obtain ⟨w2, mb, HW2, HR2, S2⟩ : ∃ (w2 : World) (m : Nat), Hid (w2 = w1.alloc (.map #[] 0)) ∧ Hid (m = w1.heap.size) ∧ Hid (Lie w.heap.size w w2 (rmap m 0 (s.rs.take 0) :: [SB])) :=
    ⟨_, _, hide rfl, hide rfl, hide (S1.out.push ((Turn.refl _ w1).alloc _) (mpt_made w1 (recv zeroR)) (fun _ hk => Nat.le_of_eq hk.symm))⟩
  obtain ⟨w3, m3, MB, HW3, HR3, HMB, S3⟩ := lay S2 (.cells #[.map (some mb)] 118)
  have HRB : Hid (mb = r + 1) := hide (by rw [HR2.out, HW.out, HR.out]; simp)
  have HRC : Hid (m3 = mb + 1) := hide (by rw [HR3.out, HW2.out, HR2.out]; simp)
  obtain ⟨z0, z1, z2, z3⟩ := at4 S3 2 rfl HSB
  clear h g ev
  have hmm := @run_makeMap Tryz.prog
  go_enter Tryz.func29, Tryz.ntmps29
  go_upto_region 2 with (fail)
  rw [← HW.out, ← HW2.out, ← HR.out, ← HRB.out, ← HRC.out, ← HW3.out]
  go_wp2_with fail
  clear z0 z1 z2 z3
  go_loopw [10] (fun s10 wr => ∃ k : Nat, k ≤ nr ∧ s10 = .int .i64 k ∧ Hid (Lie w.heap.size w wr [MB, rmap mb k (s.rs.take k), SB])) (fun s10 _ => nr - (intOf s10).toNat)
  case atStart => exact ⟨0, by omega, rfl, S3⟩
  case round =>
    clear S3 S1 S2 HW HW2 HW3
    obtain ⟨k, hk, rfl, HL⟩ := hrel
    by_cases hlt : k < nr
    · have hil : k < s.rs.length := by have := recs_len HSR; omega
      obtain ⟨x, b, o, Am, m, cm, HX, rfl, hb, d0, d1, d2, HFA, HGF, hx2, hm4⟩ := rec_in HSR HGR (lie_turn HL) hil
      have hxv : x.fv = .slice Am m cm := by
        have h1 := d2
        obtain ⟨b', o', e, _, _, hc⟩ := rec_at (A := some ⟨b, o, none⟩) (c := cr) (n := nr) s.rs (HSR.out.on (lie_turn HL)) (by omega)
        injection e with e
        injection e with e1 e2
        subst e1 e2
        have h2 := (hc k hil).2.2
        rw [← HX.out, h1] at h2
        exact (Option.some.inj h2).symm
      have HXV := hide hxv
      clear hxv
      obtain ⟨w4, rx, RB, HW4, HR4, HRB2, S4⟩ := lay HL (.cells #[.string x.name, .bool x.choice, .slice Am m cm] 61)
      have m0 := at1 S4 1 rfl HMB
      obtain ⟨x0, x1, x2⟩ := at3 S4 0 rfl HRB2
      obtain ⟨w5, ks, his, T5⟩ := mpt_store (S4.out.get 2 rfl) Tryz.underlying118 x.name (recv x) (by unfold maxLen; omega) (by unfold maxLen; omega)
      rw [← frOf_next hil HX] at his
      have S5 : Hid (Lie w.heap.size w w5 [RB, MB, rmap mb (k + 1) (s.rs.take (k + 1)), SB]) := hide (S4.out.step (t' := rmap mb (k + 1) (s.rs.take (k + 1))) 2 rfl T5 his (fun k hk => .inl hk))
      unfold recv at ks
      rw [HXV.out] at ks
      clear his T5
      go_upto_region 5 with (fail)
      rw [← HW4.out, ← HR4.out]
      go_wp2_with fail
      go_roundw
      case rel => exact ⟨k + 1, by omega, by go_num, hide S5.out.pop⟩
      case measure => simp [intOf]; omega
    · obtain rfl : k = nr := by omega
      have HL2 : Hid (Lie w.heap.size w wr [box m3 (.cells #[.map (some mb)] 118 (0, 0)), rmap mb k s.rs]) := hide (by
        have h1 := HL.out.erase 2
        have h2 : Lie w.heap.size w wr [MB, rmap mb k (s.rs.take k)] := h1
        rw [HMB.out] at h2
        rw [recs_len HSR, List.take_length] at h2
        rw [recs_len HSR]
        exact h2)
      go_wp2_with fail
      go_ret
      exact ⟨m3, mb, k, rfl, HL2⟩
end Go.Proofs.YtnljdcghaecdaaaGreatDoor
/-
  Values of a type, whole.
-/
namespace Go.Proofs.YtnljdcghaecdaaaGreatDoor
open Go.RowKit Go.Lib Go.Maps
attribute [local go_sem] Oper.semAt_some

set_option maxRecDepth 100000 in
set_option maxHeartbeats 4000000 in
theorem find53 {W1 : World} {m3 mb n : Nat} {rs : List RecD} (hb : W1.heap[m3]? = some (.cells #[.map (some mb)] 118 (0, 0))) (hm : (rmap mb n rs).is W1) (x : ByteArray) (hx : x.size ≤ 100000) (hsh : ∃ A k c, (frOf rs x).fv = .slice A k c) (w : World) (T : Turn (fun _ => False) W1 w) :
    Calls Tryz.prog 53 #[.string x, .pointer (some ⟨m3, 0, none⟩)] w fun e w' => e = .returned (recv (frOf rs x)) ∧ Turn (fun _ => False) w w' := by
  have T2 : Turn (fun _ => False) W1 (w.alloc (.cells #[.string ⟨#[]⟩, .bool false, .slice none 0 0] 61)) := T.alloc _
  have hm2 : (rmap mb n rs).is (w.alloc (.cells #[.string ⟨#[]⟩, .bool false, .slice none 0 0] 61)) := ((rmap mb n rs).stay hm (fun k hk => T2.block k ((rmap mb n rs).lt hm hk) (fun h => h))).1
  have kl := mpt_look hm2 Tryz.underlying118 (zero61 _) x (by unfold maxLen; omega)
  have hb2 : (w.alloc (.cells #[.string ⟨#[]⟩, .bool false, .slice none 0 0] 61)).heap[m3]? = _ := T2.obj hb (fun h => h)
  have c0 : (w.alloc (.cells #[.string ⟨#[]⟩, .bool false, .slice none 0 0] 61)).cell? ⟨m3, 0, none⟩ = some (.map (some mb)) := by simp [World.cell?, hb2]
  have ev : mapv rs x = recv (frOf rs x) := rfl
  rw [ev] at kl
  obtain ⟨⟨fn, fc, fs, fv⟩, hr⟩ : ∃ r, r = frOf rs x := ⟨_, rfl⟩
  rw [← hr] at kl hsh ⊢
  obtain ⟨A, k, c, e⟩ := hsh
  simp only at e
  subst e
  unfold recv at kl ⊢
  simp only at kl ⊢
  obtain ⟨w2, rr, RB, HW2, HR2, HRB, S2⟩ := lay (hide (Lie.start w)) (.cells #[.string ⟨#[]⟩, .bool false, .slice none 0 0] 61)
  obtain ⟨y0, y1, y2⟩ := at3 S2 0 rfl HRB
  have f0 := frz S2 0 rfl HRB 0
  have f1 := frz S2 0 rfl HRB 1
  have f2 := frz S2 0 rfl HRB 2
  rw [← HW2.out] at kl c0
  rw [HRB.out] at S2
  have S3 : Hid (Lie w.heap.size w (((w2.setCell ⟨rr, 0, none⟩ (.string fn)).setCell ⟨rr, 1, none⟩ (.bool fc)).setCell ⟨rr, 2, none⟩ (.slice A k c)) [box rr (.cells #[.string fn, .bool fc, .slice A k c] 61 (0, 0))]) := hide (((S2.out.setBox 0 rfl 0 (.string fn)).setBox 0 rfl 1 (.bool fc)).setBox 0 rfl 2 (.slice A k c))
  clear hr hm hm2 T2 T hb hb2 ev
  go_enter Tryz.func53, Tryz.ntmps53
  go_upto_region 1 with (fail)
  rw [← HW2.out, ← HR2.out]
  go_wp2_with fail
  generalize ((w2.setCell ⟨rr, 0, none⟩ (.string fn)).setCell ⟨rr, 1, none⟩ (.bool fc)).setCell ⟨rr, 2, none⟩ (.slice A k c) = w3 at *
  clear y0 y1 y2 f0 f1 f2
  obtain ⟨y0, y1, y2⟩ := cell3 (S3.out.get 0 rfl)
  try simp only [Exit.inBlock, Exit.then]
  refine bodyPost_ret (v := .agg #[.string fn, .bool fc, .slice A k c]) (by simp [results, Tryz.results53, go_sem, y0, y1, y2]) rfl ?_
  exact ⟨rfl, turn_of S3.out⟩
theorem zeroR_fs (W : World) : FieldsAt W zeroR.fv zeroR.fs := ⟨⟨rfl, none, 0, rfl, fun _ => ⟨rfl, rfl⟩, fun h => by cases h⟩, fun f hf => by cases hf⟩
/-- The schema's types are right. -/
def RightS (s : SchD) : Prop := ∀ r ∈ s.rs, ∀ f ∈ r.fs, TyOk f.ts
theorem right_of {s : SchD} (g : GSch s) (h : checkB s = true) : RightS s := fun r hr f hf => by
  have h1 : typesB s = true := by
    unfold checkB at h
    simp only [Bool.and_eq_true] at h
    exact h.1.1.1.1.1.1.2
  unfold typesB at h1
  rw [Bool.and_eq_true] at h1
  have h2 := List.all_eq_true.1 h1.1 r hr
  have h3 := List.all_eq_true.1 h2 f hf
  have hg := (g.rs r hr).2.2 f hf
  exact ⟨wf_right h3, by have := hg.2.1; omega, fun x hx => by have h4 := hg.2.2 x hx; unfold GSort at h4; omega⟩
theorem env_of {s : SchD} {W W1 : World} {m3 mb n : Nat} (h : SchAt W s) (g : GSch s) (hr : RightS s) (T : Turn (fun _ => False) W W1) (hb : W1.heap[m3]? = some (.cells #[.map (some mb)] 118 (0, 0))) (hm : (rmap mb n s.rs).is W1) : Env (frOf s.rs) W1 m3 := by
  have hfs : ∀ x, FieldsAt W1 (frOf s.rs x).fv (frOf s.rs x).fs := fun x => by
    rcases frOf_mem s.rs x with h1 | h1
    · exact ((h.on T).rs.2 _ h1)
    · rw [h1]; exact zeroR_fs W1
  refine ⟨fun x w' hx T' => find53 hb hm x hx ?_ w' T', hfs, fun x f hf => ?_, fun x => ?_⟩
  · obtain ⟨A, c, e⟩ := (hfs x).1.shape
    exact ⟨A, _, c, e⟩
  · rcases frOf_mem s.rs x with h1 | h1
    · exact hr _ h1 f hf
    · rw [h1] at hf; cases hf
  · rcases frOf_mem s.rs x with h1 | h1
    · have := (g.rs _ h1).2.1; omega
    · rw [h1]; decide
theorem of_all (fr : ByteArray → RecD) {W1 : World} {ns : List NodeD} {nv : Value} {m3 : Nat} (hns : Hid (NodesAt W1 nv ns)) (hnn : ns.length ≤ 100000) (HE : Hid (Env fr W1 m3)) : ∀ m, OfAll fr W1 ns nv (.func (.func 53) #[] #[.pointer (some ⟨m3, 0, none⟩)]) m := by
  intro m
  induction m with
  | zero =>
    intro tv xs w ts n cb at0 ht hty hat hm hn L
    cases xs with
    | nil => exact absurd hty.out.wf (by decide)
    | cons x r => exact of_step fr hns hnn HE tv x r w ts n cb at0 ht hty (hide (fun h => by omega)) hat hn L
  | succ m ih =>
    intro tv xs w ts n cb at0 ht hty hat hm hn L
    cases xs with
    | nil => exact absurd hty.out.wf (by decide)
    | cons x r =>
      refine of_step fr hns hnn HE tv x r w ts n cb at0 ht hty (hide (fun h => ?_)) hat hn L
      intro tv' xs' w' ts' n' cb' at' ht' hty' hat' hm' hn' L'
      exact ih tv' xs' w' ts' n' cb' at' ht' hty' hat' (by omega) hn' L'
end Go.Proofs.YtnljdcghaecdaaaGreatDoor
/-
  Are a schema and a type right?
-/
namespace Go.Proofs.YtnljdcghaecdaaaGreatDoor
open Go.RowKit Go.Lib Go.Maps
attribute [local go_sem] Oper.semAt_some

def TypesTo (Q : Prop) (w : World) (e : Ending) (w' : World) : Prop := ∃ n : Int, e = .returned (.int .i64 n) ∧ (n = 0 → Q) ∧ Turn (fun _ => False) w w'
set_option maxRecDepth 100000 in
set_option maxHeartbeats 8000000 in
theorem vtypes_any (s : SchD) (tv : Value) (ts : List SortD) (w : World) (h : SchAt w s) (g : GSch s) (ht : SortsAt w tv ts) (hg : ∀ x ∈ ts, GSort x) (hp : ts.length ≤ 300) (hk : Kw w) : Calls Tryz.prog 28 #[schv s, tv] w (TypesTo (RightS s ∧ TyOk ts) w) := by
  have CC := hide (fun (w' : World) (t : Turn (fun _ => False) w w') => check_any s w' (h.on t) g (kw_on (hide hk) t))
  have CT := hide (fun (w' : World) (t : Turn (fun _ => False) w w') => type_any tv ts w' (ht.on t) hg hp (kw_on (hide hk) t))
  have CF := hide (fun (x : ByteArray) (w' : World) (t : Turn (fun _ => False) w w') => find_any s x w' (h.on t) g)
  have HR := hide (right_of g)
  have HTY : Hid (wfT ts = true → TyOk ts) := hide (fun hw => ⟨hw, by omega, fun x hx => by have h4 := hg x hx; unfold GSort at h4; omega⟩)
  obtain ⟨Ar, nr, cr, Av, nv, cv, Ag, ng, cg, ev, _⟩ := sch_in s h g
  unfold FindTo at CF
  rw [ev] at CC CF ⊢
  have HT := hide ht
  obtain ⟨At, ct, rfl⟩ := ht.1.shape
  have hcap := ht.2.le
  obtain ⟨l, hl⟩ : ∃ l, l = ts.length := ⟨_, rfl⟩
  have HL := hide hl
  rw [← hl] at hp CT hcap ⊢
  obtain ⟨w1, r, SB, HW, HR0, HSB, S1⟩ := lay (hide (Lie.start w)) (.cells #[.string s.name, .slice Ar nr cr, .slice Av nv cv, .slice Ag ng cg] 26)
  obtain ⟨z0, z1, z2, z3⟩ := at4 S1 0 rfl HSB
  rw [HW.out] at z0 z1 z2 z3
  rw [HR0.out] at z0 z1 z2 z3
  have C1 := hide (CC.out w1 (lie_turn S1))
  generalize checkB s = cb at *
  clear CC h g ht hg hk hl ev
  go_enter Tryz.func28, Tryz.ntmps28
  go_wp2_with fail
  rw [← HW.out]
  refine C1.out.mono ?_
  rintro e w2 ⟨x, n, rfl, hgood, hbad, T2⟩
  have S2 := hide (S1.out.stay T2)
  clear C1 z0 z1 z2 z3 T2
  cases cb with
  | false =>
    have hn := hbad rfl
    have hn1 : (n == 0) = false := by simp [hn]
    have hn2 : (n != 0) = true := by simp [hn]
    have HN := hide hn
    clear hgood hbad hn
    go_wp2_with fail
    go_ret
    exact ⟨n, rfl, (fun h => absurd h HN.out), lie_turn S2⟩
  | true =>
    obtain ⟨hx, hn⟩ := hgood rfl
    subst hx hn
    clear hgood hbad
    have C2 := hide (CT.out w2 (lie_turn S2))
    go_wp2_with fail
    refine C2.out.mono ?_
    rintro e w3 ⟨z, rfl, hz, T3⟩
    have S3 := hide (S2.out.stay T3)
    have HZ := hide hz
    have e1 := bare_eq z
    clear C2 hz T3
    cases hbz : bare0 z with
    | true =>
      rw [hbz] at e1
      clear hbz
      go_wp2_with fail
      go_ret
      exact ⟨131, rfl, (fun h => by cases h), lie_turn S3⟩
    | false =>
      have hwf : wfT ts = true := HZ.out (fun h => by unfold bare0 at hbz; rw [decide_eq_true h] at hbz; cases hbz)
      have HWF := hide hwf
      rw [hbz] at e1
      have hl1 : 1 ≤ l := by
        rw [HL.out]
        cases ts with
        | nil => cases hwf
        | cons _ _ => simp
      obtain ⟨q, rfl⟩ : ∃ q, l = q + 1 := ⟨l - 1, by omega⟩
      have hil : q < ts.length := by have := HL.out; omega
      obtain ⟨y, b, o, HY, rfl, hb, k0, k1⟩ := sort_in (m := q + 1) (c := ct) (by have := HT.out.on (lie_turn S3); rw [← HL.out] at this; exact this) hil
      obtain ⟨w4, r7, YB, HW4, HR4, HYB, S4⟩ := lay S3 (.cells #[.int .u8 y.kind, .string y.name] 44)
      obtain ⟨y0, y1⟩ := at2 S4 0 rfl HYB
      obtain ⟨z0, z1, z2, z3⟩ := at4 S4 1 rfl HSB
      rw [HW4.out] at y0 y1 z0 z1 z2 z3
      rw [HR4.out] at y0 y1
      have C3 := hide (CF.out y.name w4 (lie_turn S4))
      have HH := hide (rfl : hasR s.rs y.name = hasR s.rs y.name)
      clear hbz hwf HH
      by_cases h7 : y.kind = 7
      · have e7 : (y.kind == 7) = true := by simp [h7]
        rw [HR0.out] at z0 z1 z2 z3
        clear h7
        go_wp2_with fail
        rw [← HW4.out]
        refine C3.out.mono ?_
        rintro e w5 ⟨rr, rfl, _, hF, T5⟩
        have S5 := hide (S4.out.stay T5)
        obtain ⟨⟨rn, rc, rf, rfv⟩, hrr⟩ : ∃ x, x = rr := ⟨_, rfl⟩
        subst hrr
        obtain ⟨A3, c3, hs3⟩ := hF.1.shape
        simp only at hs3
        subst hs3
        have S6 := hide (S5.out.skip (.cells #[.string rn, .bool rc, .slice A3 rf.length c3] 61))
        clear y0 y1 z0 z1 z2 z3 hF T5 C3
        generalize hasR s.rs y.name = hr0 at *
        cases hr0
        · go_wp2_with fail
          go_ret
          exact ⟨131, rfl, (fun h => by cases h), lie_turn S6⟩
        · go_wp2_with fail
          go_ret
          exact ⟨0, rfl, (fun _ => ⟨HR.out (by simp), HTY.out HWF.out⟩), lie_turn S6⟩
      · have e7 : (y.kind == 7) = false := by simp [h7]
        go_wp2_with fail
        rw [← HW4.out]
        go_ret
        exact ⟨0, rfl, (fun _ => ⟨HR.out (by simp), HTY.out HWF.out⟩), lie_turn S4⟩
end Go.Proofs.YtnljdcghaecdaaaGreatDoor
/-
  Fits.
-/
namespace Go.Proofs.YtnljdcghaecdaaaGreatDoor
open Go.RowKit Go.Lib Go.Maps
attribute [local go_sem] Oper.semAt_some

def sumT (ns : List NodeD) : Nat := (ns.map (fun x => x.text.size)).sum
theorem sum_next {ns : List NodeD} {k : Nat} (hk : k < ns.length) {x : NodeD} (hx : Hid (x = ns[k])) : sumT (ns.take (k + 1)) = sumT (ns.take k) + x.text.size := by
  unfold sumT
  rw [List.take_succ_eq_append_getElem hk, List.map_append, List.sum_append, hx.out]
  rfl
theorem sum_le {ns : List NodeD} : ∀ {k : Nat}, sumT (ns.take k) ≤ sumT ns := by
  intro k
  unfold sumT
  have h1 : (ns.map (fun x => x.text.size)).sum = ((ns.take k).map (fun x => x.text.size)).sum + ((ns.drop k).map (fun x => x.text.size)).sum := by
    rw [← List.sum_append, ← List.map_append, List.take_append_drop]
  omega
structure FitsP (s : SchD) (ts : List SortD) (ns : List NodeD) : Prop where
  tys : Tys (frOf s.rs) [ts] ns
  len : ns.length + sumT ns ≤ 4096
set_option maxRecDepth 100000 in
set_option maxHeartbeats 16000000 in
theorem fits_any (s : SchD) (tv nv : Value) (ts : List SortD) (ns : List NodeD) (w : World) (h : SchAt w s) (g : GSch s) (ht : SortsAt w tv ts) (hg : ∀ x ∈ ts, GSort x) (hp : ts.length ≤ 300) (hk : Kw w) (hn : NodesAt w nv ns) (hnl : ns.length ≤ 6000) (hnt : ∀ x ∈ ns, x.text.size ≤ 6000) :
    Calls Tryz.prog 13 #[schv s, tv, nv] w (TypesTo (FitsP s ts ns) w) := by
  have CT := hide (fun (w' : World) (t : Turn (fun _ => False) w w') => vtypes_any s tv ts w' (h.on t) g (ht.on t) hg hp (kw_on (hide hk) t))
  have CF := hide (fun (w' : World) (t : Turn (fun _ => False) w w') => finder_any s w' (h.on t) g)
  have HEN := hide (fun (W1 : World) (m3 mb n : Nat) (hr : RightS s) (T : Turn (fun _ => False) w W1) => env_of (m3 := m3) (mb := mb) (n := n) h g hr T)
  have HT := hide ht
  have HNS := hide hn
  have HNT := hide hnt
  obtain ⟨Ar, nr, cr, Av, nv0, cv, Ag, ng, cg, ev, _⟩ := sch_in s h g
  rw [ev] at CT CF ⊢
  obtain ⟨An, cn, rfl⟩ := hn.shape
  obtain ⟨At, ct, rfl⟩ := ht.1.shape
  obtain ⟨l, hl⟩ : ∃ l, l = ts.length := ⟨_, rfl⟩
  have HL := hide hl
  obtain ⟨q, hq⟩ : ∃ q, q = ns.length := ⟨_, rfl⟩
  have HQ := hide hq
  have HT' := HT
  have HNS' := HNS
  rw [← hl] at hp CT HT' ⊢
  rw [← hq] at hnl HNS' ⊢
  obtain ⟨w1, r, SB, HW, HR0, HSB, S1⟩ := lay (hide (Lie.start w)) (.cells #[.string s.name, .slice Ar nr cr, .slice Av nv0 cv, .slice Ag ng cg] 26)
  obtain ⟨z0, z1, z2, z3⟩ := at4 S1 0 rfl HSB
  rw [HW.out] at z0 z1 z2 z3
  rw [HR0.out] at z0 z1 z2 z3
  have C1 := hide (CT.out w1 (lie_turn S1))
  clear CT h g ht hg hk hn hnt hl hq ev
  go_enter Tryz.func13, Tryz.ntmps13
  go_wp2_with fail
  rw [← HW.out]
  refine C1.out.mono ?_
  rintro e w2 ⟨n, rfl, hQ, T2⟩
  have S2 := hide (S1.out.stay T2)
  have HQQ := hide hQ
  clear C1 z0 z1 z2 z3 T2 hQ
  by_cases hn0 : n = 0
  · subst hn0
    have HRT := hide (HQQ.out rfl)
    clear HQQ
    obtain ⟨z0, z1, z2, z3⟩ := at4 S2 0 rfl HSB
    rw [HR0.out] at z0 z1 z2 z3
    have C2 := hide (CF.out w2 (lie_turn S2))
    clear CF
    go_wp2_with fail
    refine C2.out.mono ?_
    rintro e w3 ⟨m3, mb, mn, rfl, S3⟩
    clear z0 z1 z2 z3 C2
    have T3 : Hid (Turn (fun _ => False) w w3) := hide ((lie_turn S2).trans (turn_of S3.out))
    have EN := hide (HEN.out w3 m3 mb mn HRT.out.1 T3.out (S3.out.get 0 rfl) (S3.out.get 1 rfl))
    clear HEN
    obtain ⟨w4, cb, CB, HW4, HR4, HCB, S4⟩ := lay (hide (Lie.start w3)) (.cells #[.slice An q cn, .int .i64 0, .func (.func 53) #[] #[.pointer (some ⟨m3, 0, none⟩)]] 75)
    have S4' : Hid (Lie w3.heap.size w3 w4 [cur cb (.slice An q cn) 0 (.func (.func 53) #[] #[.pointer (some ⟨m3, 0, none⟩)])]) := hide (by rw [HCB.out] at S4; exact S4.out)
    have CO := hide (of_all (frOf s.rs) (W1 := w3) (ns := ns) (nv := .slice An q cn) (hide (HNS'.out.on T3.out)) (by have := HQ.out; omega) EN ns.length (.slice At l ct) ts w4 _ 0 cb 0 (hide (HT'.out.on T3.out)) (hide HRT.out.2) (by omega) (by omega) (hide rfl) S4')
    go_wp2_with fail
    rw [← HW4.out, ← HR4.out]
    refine CO.out.mono ?_
    rintro e w5 ⟨d, b, rfl, _, hbn, hdb, HTK, S5⟩
    have S5 : Hid (Lie w3.heap.size w3 w5 [cur cb (.slice An q cn) b (.func (.func 53) #[] #[.pointer (some ⟨m3, 0, none⟩)])]) := S5
    have T5 : Hid (Turn (fun _ => False) w w5) := hide (T3.out.trans (turn_of S5.out))
    obtain ⟨c0, c1, c2⟩ := cell3 (S5.out.get 0 rfl)
    rw [← HQ.out] at hbn
    clear CO S4 S4'
    by_cases hd0 : d = 0
    · subst hd0
      go_wp2_with fail
      go_ret
      exact ⟨150, rfl, (fun h => by cases h), T5.out⟩
    · have hdz : ((d : Int) == 0) = false := by simp [hd0]
      have HTK2 := hide (HTK.out hd0)
      by_cases hbq : b = q
      · subst hbq
        have HTY : Hid (Tys (frOf s.rs) [ts] ns) := hide (by
          have := HTK2.out [] (by rw [HQ.out, List.drop_length]; exact .nil)
          simpa using this)
        clear HTK HTK2
        by_cases hd12 : d ≤ 12
        · by_cases h4 : b ≤ 4096
          · go_wp2_with fail
            clear c0 c1 c2
            go_loopw [50, 10] (fun s50 s10 wr => ∃ k : Nat, k ≤ b ∧ s50 = .int .i64 k ∧ s10 = .int .i64 ((b : Int) + (sumT (ns.take k) : Nat)) ∧ b + sumT (ns.take k) ≤ 4096 ∧ Hid (Turn (fun _ => False) w wr)) (fun s50 _ _ => b - (intOf s50).toNat)
            case atStart => exact ⟨0, by omega, rfl, by simp [sumT], by simp [sumT]; omega, T5⟩
            case round =>
              obtain ⟨k, hk, rfl, rfl, hs4, HTW⟩ := hrel
              by_cases hlt : k < b
              · have hil : k < ns.length := by have := HQ.out; omega
                obtain ⟨bb, o, rfl, _, _, hc⟩ := node_at (A := An) (c := cn) (n := ns.length) ns (HNS.out.on HTW.out) (by omega)
                obtain ⟨d0, d1, d2, d3⟩ := hc k hil
                have HSN := hide (sum_next hil (hide rfl))
                have hxt := HNT.out ns[k] (List.getElem_mem hil)
                generalize ns[k] = x at *
                obtain ⟨w6, rx, XB, HW6, HR6, HXB, S6⟩ := lay (hide (Lie.start wr)) (.cells #[.int .u8 x.kind, .int .i64 x.num, .string x.text, .int .i64 x.kids] 46)
                have T6 : Hid (Turn (fun _ => False) w w6) := hide (HTW.out.trans (turn_of S6.out))
                clear hc
                generalize sumT (ns.take k) = sk at *
                by_cases hfit : b + sk + x.text.size ≤ 4096
                · go_wp2_with fail
                  rw [← HW6.out]
                  go_roundw
                  case rel => exact ⟨k + 1, by omega, by go_num, by rw [HSN.out]; go_num, by rw [HSN.out]; omega, T6⟩
                  case measure => simp [intOf]; omega
                · have hfit2 : (4096 : Int) < (b : Int) + (sk : Int) + (x.text.size : Int) := by omega
                  go_wp2_with fail
                  rw [← HW6.out]
                  go_ret
                  exact ⟨3, rfl, (fun h => by cases h), T6.out⟩
              · obtain rfl : k = b := by omega
                have HF : Hid (FitsP s ts ns) := hide ⟨HTY.out, by have h1 := hs4; rw [HQ.out, List.take_length] at h1; exact h1⟩
                go_wp2_with fail
                go_ret
                exact ⟨0, rfl, (fun _ => HF.out), HTW.out⟩
          · have h42 : (4096 : Int) < (b : Int) := by omega
            go_wp2_with fail
            go_ret
            exact ⟨3, rfl, (fun h => by cases h), T5.out⟩
        · have hd2 : (12 : Int) < (d : Int) := by omega
          go_wp2_with fail
          go_ret
          exact ⟨151, rfl, (fun h => by cases h), T5.out⟩
      · have e1 : ((b : Int) == (q : Int)) = false := by rw [beq_eq_false_iff_ne]; omega
        have e2 : ((b : Int) != (q : Int)) = true := by simp; omega
        go_wp2_with fail
        go_ret
        exact ⟨150, rfl, (fun h => by cases h), T5.out⟩
  · have hn1 : (n == 0) = false := by simp [hn0]
    have hn2 : (n != 0) = true := by simp [hn0]
    have HN := hide hn0
    clear hn0
    go_wp2_with fail
    go_ret
    exact ⟨n, rfl, (fun h => absurd h HN.out), lie_turn S2⟩
end Go.Proofs.YtnljdcghaecdaaaGreatDoor
/-
  Signed numbers as ones without a sign; numbers put behind bytes by the codec.
-/
namespace Go.Proofs.YtnljdcghaecdaaaGreatDoor
open Go.RowKit Go.Lib Go.Maps
attribute [local go_sem] Oper.semAt_some

def zigA (n : Int) : Nat := (n * 2 % 18446744073709551616).toNat
def zigB (n : Int) : Nat := if n < 0 then 18446744073709551615 else 0
def zig (n : Int) : Nat := zigA n ^^^ zigB n
def In64 (n : Int) : Prop := -9223372036854775808 ≤ n ∧ n ≤ 9223372036854775807
theorem zig_lt (n : Int) : zig n < 18446744073709551616 := by
  have h1 : zigA n < 2 ^ 64 := by unfold zigA; omega
  have h2 : zigB n < 2 ^ 64 := by unfold zigB; split <;> omega
  exact Nat.xor_lt_two_pow h1 h2
theorem zig_bits (n : Int) (h : In64 n) : bits .xor .u64 (IntKind.u64.wrap (IntKind.u64.wrap n * 2)) (IntKind.u64.wrap (n / 9223372036854775808)) = (zig n : Int) := by
  unfold In64 at h
  have e1 : IntKind.u64.wrap (IntKind.u64.wrap n * 2) = (zigA n : Int) := by
    rw [IntKind.wrap_u64, IntKind.wrap_u64]; unfold zigA; omega
  have e2 : IntKind.u64.wrap (n / 9223372036854775808) = (zigB n : Int) := by
    rw [IntKind.wrap_u64]; unfold zigB; split <;> omega
  rw [e1, e2]
  exact bits_xor_u64_nat _ _ (by unfold zigA; omega) (by unfold zigB; split <;> omega)
theorem zig_inj (a b : Int) (ha : In64 a) (hb : In64 b) (h : zig a = zig b) : a = b := by
  unfold In64 at ha hb
  have cancel : ∀ x y m : Nat, x ^^^ m = y ^^^ m → x = y := fun x y m h => by
    have := congrArg (· ^^^ m) h
    simpa [Nat.xor_assoc] using this
  have low : ∀ n, (zig n).testBit 0 = decide (n < 0) := fun n => by
    unfold zig
    rw [Nat.testBit_xor, Nat.testBit_zero, Nat.testBit_zero]
    have h1 : zigA n % 2 = 0 := by unfold zigA; omega
    rw [h1]
    unfold zigB
    by_cases hn : n < 0 <;> simp [hn]
  have hs : decide (a < 0) = decide (b < 0) := by rw [← low, ← low, h]
  have hB : zigB a = zigB b := by
    unfold zigB
    by_cases h1 : a < 0 <;> by_cases h2 : b < 0 <;> simp [h1, h2] at hs ⊢
  have hs2 : a < 0 ↔ b < 0 := by simpa using hs
  unfold zig at h
  rw [hB] at h
  have hA : zigA a = zigA b := cancel _ _ _ h
  unfold zigA at hA
  omega
set_option maxRecDepth 100000 in
theorem zig_any (n : Int) (w : World) (hn : In64 n) : Calls Tryz.prog 15 #[.int .i64 n] w fun e w' => e = .returned (.int .u64 (zig n)) ∧ w' = w := by
  have HZ := hide (zig_bits n hn)
  clear hn
  go_enter Tryz.func15, Tryz.ntmps15
  go_wp2_with fail
  go_ret
  exact ⟨by rw [← HZ.out]; rfl, rfl⟩
section
variable {B : Nat} {w0 w : World} {ts : List Thing} {v : Value} {xs : List Int}
set_option maxRecDepth 100000 in
set_option maxHeartbeats 2000000 in
theorem putvarc_any (x : Nat) (hx : x < 18446744073709551616) (hn : xs.length ≤ 900000) (h : Lie B w0 w (brow B v xs :: ts)) :
    Calls Tryz.prog 14 #[v, .int .u64 x] w fun e w' => ∃ v', e = .returned v' ∧ Hid (Lie B w0 w' (brow B v' (xs ++ varB x) :: ts)) := by
  obtain ⟨i0, hi0, hz0, hz1, hz2⟩ := info_parts info5
  have H := hide h
  clear h
  go_enter Tryz.func14, Tryz.ntmps14
  go_wp2_with fail
  go_loopw [0, 1] (fun s0 s1 wr => ∃ (ds : List Int) (y : Nat), s1 = .int .u64 y ∧ y < 18446744073709551616 ∧ Hid (varB x = ds ++ varB y ∧ Lie B w0 wr (brow B s0 (xs ++ ds) :: ts))) (fun _ s1 _ => (intOf s1).toNat)
  case atStart => exact ⟨[], x, rfl, hx, hide ⟨rfl, by rw [List.append_nil]; exact H.out⟩⟩
  case round =>
    obtain ⟨ds, y, rfl, hy, HY⟩ := hrel
    have hd : ds.length ≤ 10 := by
      have h1 := congrArg List.length HY.out.1
      rw [List.length_append] at h1
      have h2 := varB_ten x hx
      omega
    obtain ⟨A', c', rfl⟩ := (Rd.of_own (HY.out.2.get 0 rfl)).shape
    have hb := HY.out.2.base_le
    have OWN : Hid (wr.ownsRow B 5 1 (.slice A' (xs ++ ds).length c') (xs ++ ds).length ((xs ++ ds).flatMap bc)) := hide (HY.out.2.get 0 rfl)
    have hlen : (xs ++ ds).length ≤ 900020 := by rw [List.length_append]; omega
    by_cases h128 : y < 128
    · have hv : Hid (varB x = ds ++ [(y : Int)]) := hide (by have h1 := HY.out.1; rw [varB_small h128] at h1; exact h1)
      have HL := hide HY.out.2
      have hm : (y : Int) % 256 = (y : Int) := by omega
      generalize hz : xs ++ ds = zs at *
      have HZ := hide hz
      clear hz
      go_wp2_with (at_builtin; refine wpList_append1 rfl (.tmp 15) (.tmp 18) 52 rfl B 5 i0 _ 1 1 Tryz.underlying52 hi0 hz0 hz1 hz2 rfl (by decide) (.slice A' zs.length c') zs.length _ (by simp [Act.eval]) OWN.out [.int .u8 (y : Int)] (by simp [Act.eval]) rfl (by intro u hu; simp at hu; subst hu; rfl) (by omega) (by omega) hb ?_; intro v' w2 ho t2 hnw; have L3 := hide (Lie.moreB HL.out ho t2 hnw); clear ho t2 hnw)
      go_ret
      exact ⟨v', rfl, hide (by rw [hv.out, ← List.append_assoc, HZ.out]; exact L3.out)⟩
    · have hv : Hid (varB x = (ds ++ [lowB y]) ++ varB (y / 128)) := hide (by have h1 := HY.out.1; rw [h1, varB_great h128]; simp)
      have HL := hide HY.out.2
      have HDL : Hid (xs ++ (ds ++ [lowB y]) = (xs ++ ds) ++ [lowB y]) := hide (by simp)
      generalize xs ++ ds = zs at *
      go_wp2_with (at_builtin; refine wpList_append1 rfl (.tmp 9) (.tmp 13) 52 rfl B 5 i0 _ 1 1 Tryz.underlying52 hi0 hz0 hz1 hz2 rfl (by decide) (.slice A' zs.length c') zs.length _ (by simp [Act.eval]) OWN.out [.int .u8 (lowB y)] (by simp [Act.eval]) rfl (by intro u hu; simp at hu; subst hu; rfl) (by omega) (by omega) hb ?_; intro v' w2 ho t2 hnw; have L3 := hide (Lie.moreB HL.out ho t2 hnw); clear ho t2 hnw)
      go_roundw
      case rel => exact ⟨ds ++ [lowB y], y / 128, by simp, by omega, hide ⟨hv.out, by rw [HDL.out]; exact L3.out⟩⟩
      case measure => simp [intOf]; omega
end
end Go.Proofs.YtnljdcghaecdaaaGreatDoor
/-
  A value's bytes.
-/
namespace Go.Proofs.YtnljdcghaecdaaaGreatDoor
open Go.RowKit Go.Lib Go.Maps
attribute [local go_sem] Oper.semAt_some

def encN (x : NodeD) : List Int := if x.kind = 2 then [x.num] else if x.kind = 3 then varB (zig x.num) else if x.kind = 4 then varB x.text.size ++ bytes x.text else if x.kind = 5 then varB x.kids.toNat else if x.kind = 6 then [x.kids] else if x.kind = 8 then varB x.num.toNat else []
def encs (ns : List NodeD) : List Int := ns.flatMap encN
structure NodeOk (x : NodeD) : Prop where
  num : In64 x.num
  kids : In64 x.kids
  k2 : x.kind = 2 → x.num = 0 ∨ x.num = 1
  k5 : x.kind = 5 → 0 ≤ x.kids
  k6 : x.kind = 6 → x.kids = 0 ∨ x.kids = 1
  k8 : x.kind = 8 → 0 ≤ x.num
theorem encN_len (x : NodeD) (h : NodeOk x) (ht : x.text.size ≤ 1000000) : (encN x).length ≤ 10 + x.text.size := by
  have h1 := varB_ten (zig x.num) (zig_lt _)
  have hn := h.num
  have hk := h.kids
  unfold In64 at hn hk
  have h2 := varB_ten x.text.size (by omega)
  have h3 := varB_ten x.kids.toNat (by omega)
  have h4 := varB_ten x.num.toNat (by omega)
  have h5 := bytes_len x.text
  unfold encN
  repeat' split
  all_goals simp <;> omega
theorem encs_next {ns : List NodeD} {k : Nat} (hk : k < ns.length) {x : NodeD} (hx : Hid (x = ns[k])) : encs (ns.take (k + 1)) = encs (ns.take k) ++ encN x := by
  unfold encs
  rw [List.take_succ_eq_append_getElem hk, List.flatMap_append, hx.out]
  simp
theorem encs_len : ∀ (ns : List NodeD), (∀ x ∈ ns, NodeOk x ∧ x.text.size ≤ 1000000) → (encs ns).length ≤ 10 * ns.length + sumT ns
  | [], _ => by simp [encs, sumT]
  | x :: ns, h => by
    have h1 := encs_len ns (fun y hy => h y (List.mem_cons_of_mem _ hy))
    have h2 := h x (List.mem_cons_self ..)
    have h3 := encN_len x h2.1 h2.2
    have e1 : encs (x :: ns) = encN x ++ encs ns := rfl
    have e2 : sumT (x :: ns) = x.text.size + sumT ns := by unfold sumT; rfl
    rw [e1, e2, List.length_append, List.length_cons]
    omega
section
variable {P : Program} {w : World}
theorem step_appendStr {ops : Array Oper} {o : Oper} {a : Act} {K : Act → World → Prop} {Q : Exit → Act → World → Prop} {E : Prop} (hgd : o.guard = none) (sl x : Operand) (t u : TypeId)
    (ho : o.op = .call { callee := .builtin .append, args := #[sl, x], argTypes := #[t, u] })
    (base : Nat) (e : TypeId) (i : TypeInfo) (ht : P.underlying t = some (.slice e)) (hu : P.underlying u = some .string) (hi : P.info? e = some i) (hz : i.zero = some (.int .u8 0))
    (hsize : i.size = 1) (hby : i.bytes = 1)
    (v : Value) (n : Nat) (xs : List Value) (hs : a.eval sl = v) (hown : w.ownsRow base e 1 v n xs) (s : ByteArray) (hx : a.eval x = .string s) (hm : n + s.size ≤ 1000000) (hbase : base ≤ w.heap.size)
    (h : ∀ v' w', w'.ownsRow base e 1 v' (n + s.size) (xs ++ strCells s) → Turn (fun k => v.ownBlock = some k) w w' → Newer w v v' → K (a.put o.dst v') w') :
    if Region.wanted o (yielded ops a.tmps) = true then Oper.wp P o a w K Q else E := by
  have hw : Region.wanted o (yielded ops a.tmps) = true := by simp [Region.wanted, hgd]
  rw [if_pos hw]
  obtain ⟨v', w', hr, h2, h3, h4⟩ := run_appendStr (P := P) w base t u o.type e i ht hu hi hz hsize hby v n xs hown s hm hbase
  unfold Oper.wp execOp
  simp only [ho, resolve, invoke, builtin, Sem.run_bind, Sem.run_pure, Result.andThen_ok, List.map_toArray, List.map_cons, List.map_nil, hs, hx, hr]
  exact h v' w' h2 h3 h4
end
def EncTo (Q : Prop) (bs : List Int) (w : World) (e : Ending) (w' : World) : Prop := ∃ (z : ByteArray) (n : Int), e = .returned (.tuple #[.string z, .int .i64 n]) ∧ (n = 0 → Q ∧ z = strOfNums bs) ∧ Turn (fun _ => False) w w'
set_option maxRecDepth 100000 in
set_option maxHeartbeats 16000000 in
theorem encode_any (s : SchD) (tv nv : Value) (ts : List SortD) (ns : List NodeD) (w : World) (h : SchAt w s) (g : GSch s) (ht : SortsAt w tv ts) (hg : ∀ x ∈ ts, GSort x) (hp : ts.length ≤ 300) (hk : Kw w) (hn : NodesAt w nv ns) (hnl : ns.length ≤ 6000) (hnt : ∀ x ∈ ns, x.text.size ≤ 6000) (hok : FitsP s ts ns → ∀ x ∈ ns, NodeOk x) :
    Calls Tryz.prog 7 #[schv s, tv, nv] w (EncTo (FitsP s ts ns) (encs ns) w) := by
  obtain ⟨i0, hi0, hz0, hz1, hz2⟩ := info_parts info5
  have CT := hide (fun (w' : World) (t : Turn (fun _ => False) w w') => fits_any s tv nv ts ns w' (h.on t) g (ht.on t) hg hp (kw_on (hide hk) t) (hn.on t) hnl hnt)
  have HNS := hide hn
  have HNT := hide hnt
  have HOK := hide hok
  obtain ⟨Ar, nr, cr, Av, nv0, cv, Ag, ng, cg, ev, _⟩ := sch_in s h g
  rw [ev] at CT ⊢
  obtain ⟨An, cn, rfl⟩ := hn.shape
  obtain ⟨At, ct, rfl⟩ := ht.1.shape
  obtain ⟨l, hl⟩ : ∃ l, l = ts.length := ⟨_, rfl⟩
  obtain ⟨q, hq⟩ : ∃ q, q = ns.length := ⟨_, rfl⟩
  have HQ := hide hq
  have HNS' := HNS
  rw [← hl] at CT ⊢
  rw [← hq] at hnl HNS' CT ⊢
  obtain ⟨w1, r, SB, HW, HR0, HSB, S1⟩ := lay (hide (Lie.start w)) (.cells #[.string s.name, .slice Ar nr cr, .slice Av nv0 cv, .slice Ag ng cg] 26)
  obtain ⟨z0, z1, z2, z3⟩ := at4 S1 0 rfl HSB
  rw [HW.out] at z0 z1 z2 z3
  rw [HR0.out] at z0 z1 z2 z3
  have C1 := hide (CT.out w1 (lie_turn S1))
  clear CT h g ht hg hk hn hnt hl hq hok ev
  have HLN : Hid (FitsP s ts ns → ns.length + sumT ns ≤ 4096) := hide (fun h => h.len)
  generalize FitsP s ts ns = FP at *
  go_enter Tryz.func7, Tryz.ntmps7
  go_wp2_with fail
  rw [← HW.out]
  refine C1.out.mono ?_
  rintro e w2 ⟨n, rfl, hQ, T2⟩
  have T2' : Hid (Turn (fun _ => False) w w2) := hide ((lie_turn S1).trans T2)
  have HQQ := hide hQ
  clear C1 z0 z1 z2 z3 T2 hQ
  by_cases hn0 : n = 0
  · subst hn0
    obtain HFP := hide (HQQ.out rfl)
    have HOKS := hide (HOK.out HFP.out)
    have hln := HLN.out HFP.out
    rw [← HQ.out] at hln
    have S0 : Hid (Lie w.heap.size w w2 [brow w.heap.size (.slice none 0 0) []]) := hide ((Lie.start w).stay T2'.out |>.push (Turn.refl _ _) (World.ownsRow_nil _ _ _ _) (fun k hk => by cases hk))
    have HEL : Hid (∀ k, (encs (ns.take k)).length ≤ 10 * 6000 + 4096) := hide (fun k => by
      have h1 := encs_len (ns.take k) (fun x hx => ⟨HOKS.out x (List.mem_of_mem_take hx), by have := HNT.out x (List.mem_of_mem_take hx); omega⟩)
      have h2 : (ns.take k).length ≤ ns.length := by rw [List.length_take]; omega
      have h3 := sum_le (ns := ns) (k := k)
      have h4 := HQ.out
      omega)
    clear HQQ HOK HLN
    go_wp2_with fail
    go_loopw [21, 9] (fun s21 s9 wr => ∃ k : Nat, k ≤ q ∧ s21 = .int .i64 k ∧ Hid (Lie w.heap.size w wr [brow w.heap.size s9 (encs (ns.take k))])) (fun s21 _ _ => q - (intOf s21).toNat)
    case atStart => exact ⟨0, by omega, rfl, S0⟩
    case round =>
      clear S0
      obtain ⟨k, hk, rfl, HL⟩ := hrel
      by_cases hlt : k < q
      · have hil : k < ns.length := by have := HQ.out; omega
        obtain ⟨A', c', rfl⟩ := (Rd.of_own (HL.out.get 0 rfl)).shape
        obtain ⟨bb, o, rfl, _, _, hc⟩ := node_at (A := An) (c := cn) (n := ns.length) ns (HNS.out.on (turn_of HL.out)) (by omega)
        obtain ⟨d0, d1, d2, d3⟩ := hc k hil
        have HEN := hide (encs_next hil (hide rfl))
        have hxt := HNT.out ns[k] (List.getElem_mem hil)
        have HNO := hide (HOKS.out ns[k] (List.getElem_mem hil))
        have hzl := HEL.out k
        generalize ns[k] = x at *
        generalize encs (ns.take k) = zs at *
        obtain ⟨w4, rx, XB, HW4, HR4, HXB, S4x⟩ := lay HL (.cells #[.int .u8 x.kind, .int .i64 x.num, .string x.text, .int .i64 x.kids] 46)
        have S4 := hide S4x.out.swap
        have HSZ : Hid (w4.heap.size = wr.heap.size + 1) := hide (by rw [HW4.out]; simp)
        have OWN : Hid (w4.ownsRow w.heap.size 5 1 (.slice A' zs.length c') zs.length (zs.flatMap bc)) := hide (S4.out.get 0 rfl)
        have hb4 := S4.out.base_le
        obtain ⟨x0, x1, x2, x3⟩ := at4 S4x 0 rfl HXB
        rw [HW4.out, HR4.out] at x0 x1 x2 x3
        have HEE : Hid (encN x = if x.kind = 2 then [x.num] else if x.kind = 3 then varB (zig x.num) else if x.kind = 4 then varB x.text.size ++ bytes x.text else if x.kind = 5 then varB x.kids.toNat else if x.kind = 6 then [x.kids] else if x.kind = 8 then varB x.num.toNat else []) := hide rfl
        have k2 := HNO.out.k2
        have k5 := HNO.out.k5
        have k6 := HNO.out.k6
        have k8 := HNO.out.k8
        have hk64 := HNO.out.kids
        have hn64 := HNO.out.num
        have HN64 := hide hn64
        unfold In64 at hk64 hn64
        clear hc HL S4x HEL
        generalize x.kind = xk at *
        by_cases h2 : xk = 2
        · subst h2
          have HU := hide (k2 rfl)
          clear k2 k5 k6 k8
          rcases HU.out with hu | hu
          · have HXN := hide hu
            rw [hu] at x1 d1 HW4
            have HKE : Hid (encN x = [0]) := hide (by rw [HEE.out]; simp [HXN.out])
            clear hu HU hk64 hn64
            go_wp2_with (at_builtin; (try rw [← HW4.out]); refine wpList_append1 rfl (.tmp 29) (.tmp 33) 52 rfl w.heap.size 5 i0 _ 1 1 Tryz.underlying52 hi0 hz0 hz1 hz2 rfl (by decide) (.slice A' zs.length c') zs.length _ (by simp [Act.eval]) OWN.out [.int .u8 0] (by simp [Act.eval, HSZ.out]) rfl (by intro u hu; simp at hu; subst hu; rfl) (by omega) (by omega) hb4 ?_; intro v' w5 ho t2 hnw; have L3 := hide (Lie.moreB S4.out ho t2 hnw); clear ho t2 hnw)
            go_roundw
            case rel => exact ⟨k + 1, by omega, by go_num, by rw [HEN.out, HKE.out]; exact hide (L3.out.erase 1)⟩
            case measure => simp [intOf]; omega
          · have HXN := hide hu
            rw [hu] at x1 d1 HW4
            have HKE : Hid (encN x = [1]) := hide (by rw [HEE.out]; simp [HXN.out])
            clear hu HU hk64 hn64
            go_wp2_with (at_builtin; (try rw [← HW4.out]); refine wpList_append1 rfl (.tmp 29) (.tmp 33) 52 rfl w.heap.size 5 i0 _ 1 1 Tryz.underlying52 hi0 hz0 hz1 hz2 rfl (by decide) (.slice A' zs.length c') zs.length _ (by simp [Act.eval]) OWN.out [.int .u8 1] (by simp [Act.eval, HSZ.out]) rfl (by intro u hu; simp at hu; subst hu; rfl) (by omega) (by omega) hb4 ?_; intro v' w5 ho t2 hnw; have L3 := hide (Lie.moreB S4.out ho t2 hnw); clear ho t2 hnw)
            go_roundw
            case rel => exact ⟨k + 1, by omega, by go_num, by rw [HEN.out, HKE.out]; exact hide (L3.out.erase 1)⟩
            case measure => simp [intOf]; omega
        · by_cases h3 : xk = 3
          · subst h3
            have HKE : Hid (encN x = varB (zig x.num)) := hide (by rw [HEE.out]; simp)
            have CZ := hide (fun w => zig_any x.num w HN64.out)
            have hzz := zig_lt x.num
            generalize zig x.num = zn at *
            clear k2 k5 k6 k8 hk64 hn64
            go_wp2_with fail
            refine (CZ.out _).mono ?_
            rintro e wz ⟨rfl, rfl⟩
            rw [← HW4.out]
            go_wp2_with fail
            refine (putvarc_any (xs := zs) (ts := [XB]) zn (by omega) (by omega) S4.out).mono ?_
            rintro e w5 ⟨v', rfl, L3⟩
            go_wp2_with fail
            go_roundw
            case rel => exact ⟨k + 1, by omega, by go_num, by rw [HEN.out, HKE.out]; exact hide (L3.out.erase 1)⟩
            case measure => simp [intOf]; omega
          · by_cases h4 : xk = 4
            · subst h4
              have HKE : Hid (encN x = varB x.text.size ++ bytes x.text) := hide (by rw [HEE.out]; simp)
              clear k2 k5 k6 k8 hk64 hn64
              have hv10 := varB_ten x.text.size (by omega)
              have hwu : IntKind.u64.wrap (x.text.size : Int) = (x.text.size : Int) := by rw [IntKind.wrap_u64]; omega
              go_wp2_with fail
              rw [← HW4.out, ← HR4.out]
              rw [← HW4.out, ← HR4.out] at x2
              go_region_held3 (fun W' => W'.cell? ⟨rx, 2, none⟩ = some (.string x.text)) (go_keep) (first
                | (go_at_call 14; refine (putvarc_any (xs := zs) (ts := [XB]) x.text.size (by omega) (by omega) S4.out.drew).mono ?_; rintro e w5 ⟨v5, rfl, S5⟩; have hb5 := S5.out.base_le; have OWN5 : Hid (w5.ownsRow w.heap.size 5 1 v5 (zs ++ varB x.text.size).length ((zs ++ varB x.text.size).flatMap bc)) := hide (S5.out.get 0 rfl); have y2 := (at4 S5 1 rfl HXB).2.2.1)
                | (refine step_appendStr rfl (.tmp 49) (.tmp 51) 52 9 rfl w.heap.size 5 i0 Tryz.underlying52 Tryz.underlying9 hi0 hz0 hz1 hz2 v5 (zs ++ varB x.text.size).length _ (by simp [Act.eval]) OWN5.out x.text (by simp [Act.eval]) (by simp; omega) hb5 ?_; intro v' w6 ho t2 hnw; have L3 := hide (Lie.moreS S5.out ho t2 hnw); have y2' := (at4 L3 1 rfl HXB).2.2.1; clear ho t2 hnw))
              rw [List.append_assoc] at L3
              clear x2 y2 y2'
              go_wp2_with fail
              go_roundw
              case rel => exact ⟨k + 1, by omega, by go_num, by rw [HEN.out, HKE.out]; exact hide (L3.out.erase 1)⟩
              case measure => simp [intOf]; omega
            · by_cases h5 : xk = 5
              · subst h5
                have h50 := k5 rfl
                obtain ⟨kn, hkn⟩ : ∃ kn : Nat, x.kids = (kn : Int) := ⟨x.kids.toNat, by omega⟩
                have HKE : Hid (encN x = varB kn) := hide (by rw [HEE.out, hkn]; simp)
                have hkb : kn < 18446744073709551616 := by omega
                have hwu : IntKind.u64.wrap (kn : Int) = (kn : Int) := by rw [IntKind.wrap_u64]; omega
                rw [hkn] at x3 d3 HW4
                clear hkn h50 k2 k5 k6 k8 hk64 hn64
                go_wp2_with fail
                rw [← HW4.out]
                refine (putvarc_any (xs := zs) (ts := [XB]) kn (by omega) (by omega) S4.out).mono ?_
                rintro e w5 ⟨v', rfl, L3⟩
                go_wp2_with fail
                go_roundw
                case rel => exact ⟨k + 1, by omega, by go_num, by rw [HEN.out, HKE.out]; exact hide (L3.out.erase 1)⟩
                case measure => simp [intOf]; omega
              · by_cases h6 : xk = 6
                · subst h6
                  have HU := hide (k6 rfl)
                  clear k2 k5 k6 k8
                  rcases HU.out with hu | hu
                  · have HXN := hide hu
                    rw [hu] at x3 d3 HW4
                    have HKE : Hid (encN x = [0]) := hide (by rw [HEE.out]; simp [HXN.out])
                    clear hu HU hk64 hn64
                    go_wp2_with (at_builtin; (try rw [← HW4.out]); refine wpList_append1 rfl (.tmp 62) (.tmp 66) 52 rfl w.heap.size 5 i0 _ 1 1 Tryz.underlying52 hi0 hz0 hz1 hz2 rfl (by decide) (.slice A' zs.length c') zs.length _ (by simp [Act.eval]) OWN.out [.int .u8 0] (by simp [Act.eval, HSZ.out]) rfl (by intro u hu; simp at hu; subst hu; rfl) (by omega) (by omega) hb4 ?_; intro v' w5 ho t2 hnw; have L3 := hide (Lie.moreB S4.out ho t2 hnw); clear ho t2 hnw)
                    go_roundw
                    case rel => exact ⟨k + 1, by omega, by go_num, by rw [HEN.out, HKE.out]; exact hide (L3.out.erase 1)⟩
                    case measure => simp [intOf]; omega
                  · have HXN := hide hu
                    rw [hu] at x3 d3 HW4
                    have HKE : Hid (encN x = [1]) := hide (by rw [HEE.out]; simp [HXN.out])
                    clear hu HU hk64 hn64
                    go_wp2_with (at_builtin; (try rw [← HW4.out]); refine wpList_append1 rfl (.tmp 62) (.tmp 66) 52 rfl w.heap.size 5 i0 _ 1 1 Tryz.underlying52 hi0 hz0 hz1 hz2 rfl (by decide) (.slice A' zs.length c') zs.length _ (by simp [Act.eval]) OWN.out [.int .u8 1] (by simp [Act.eval, HSZ.out]) rfl (by intro u hu; simp at hu; subst hu; rfl) (by omega) (by omega) hb4 ?_; intro v' w5 ho t2 hnw; have L3 := hide (Lie.moreB S4.out ho t2 hnw); clear ho t2 hnw)
                    go_roundw
                    case rel => exact ⟨k + 1, by omega, by go_num, by rw [HEN.out, HKE.out]; exact hide (L3.out.erase 1)⟩
                    case measure => simp [intOf]; omega
                · by_cases h8 : xk = 8
                  · subst h8
                    have h80 := k8 rfl
                    obtain ⟨kn, hkn⟩ : ∃ kn : Nat, x.num = (kn : Int) := ⟨x.num.toNat, by omega⟩
                    have HKE : Hid (encN x = varB kn) := hide (by rw [HEE.out, hkn]; simp)
                    have hkb : kn < 18446744073709551616 := by omega
                    have hwu : IntKind.u64.wrap (kn : Int) = (kn : Int) := by rw [IntKind.wrap_u64]; omega
                    rw [hkn] at x1 d1 HW4
                    clear hkn h80 k2 k5 k6 k8 hk64 hn64
                    go_wp2_with fail
                    rw [← HW4.out]
                    refine (putvarc_any (xs := zs) (ts := [XB]) kn (by omega) (by omega) S4.out).mono ?_
                    rintro e w5 ⟨v', rfl, L3⟩
                    go_wp2_with fail
                    go_roundw
                    case rel => exact ⟨k + 1, by omega, by go_num, by rw [HEN.out, HKE.out]; exact hide (L3.out.erase 1)⟩
                    case measure => simp [intOf]; omega
                  · have HKE : Hid (encN x = []) := hide (by rw [HEE.out]; simp [h2, h3, h4, h5, h6, h8])
                    clear k2 k5 k6 k8 hk64 hn64
                    go_wp2_with fail
                    rw [← HW4.out]
                    go_roundw
                    case rel => exact ⟨k + 1, by omega, by go_num, by rw [HEN.out, HKE.out, List.append_nil]; exact hide (S4.out.erase 1)⟩
                    case measure => simp [intOf]; omega
      · obtain rfl : k = q := by omega
        have HL2 := hide (by have := HL.out; rw [HQ.out, List.take_length] at this; exact this)
        obtain ⟨A', c', rfl⟩ := (Rd.of_own (HL2.out.get 0 rfl)).shape
        have hcv := conv_any _ _ wr (Rd.of_own (HL2.out.get 0 rfl))
        go_wp2_with fail
        go_ret2
        exact ⟨_, 0, rfl, (fun _ => ⟨HFP.out, rfl⟩), turn_of HL2.out⟩
  · have hn1 : (n == 0) = false := by simp [hn0]
    have hn2 : (n != 0) = true := by simp [hn0]
    have HN := hide hn0
    clear hn0
    go_wp2_with fail
    go_ret2
    exact ⟨⟨#[]⟩, n, rfl, (fun h => absurd h HN.out), T2'.out⟩
end Go.Proofs.YtnljdcghaecdaaaGreatDoor
/-
  Values of one type that are unlike have unlike bytes. No program in sight.
-/
namespace Go.Proofs.YtnljdcghaecdaaaGreatDoor
open Go.RowKit Go.Lib

structure BaseP (k : Int) (n : NodeD) : Prop where
  kind : n.kind = k
  kids : n.kids = 0
  num : k = 1 ∨ k = 4 → n.num = 0
  two : k = 2 → n.num = 0 ∨ n.num = 1
  text : k ≠ 4 → n.text = ⟨#[]⟩
theorem base_p {k : Int} {n : NodeD} (h : baseOk k n = true) : BaseP k n := by
  unfold baseOk bareN at h
  simp only [Bool.and_eq_true, decide_eq_true_eq, Bool.or_eq_true, beq_iff_eq, Bool.not_eq_true', decide_eq_false_iff_not, Bool.false_eq_true, false_or] at h
  obtain ⟨⟨h1, ⟨h2, h3⟩, h4⟩, h5⟩ := h
  refine ⟨h1, h4, fun hk => ?_, fun hk => ?_, fun hk => ?_⟩
  · rcases hk with rfl | rfl
    · simpa using h2
    · simpa using h2
  · subst hk
    simp at h5
    omega
  · rcases h3 with h3 | h3
    · exact absurd h3 hk
    · unfold bare0 at h3; exact of_decide_eq_true h3
theorem bare_p {n : NodeD} {a b c : Bool} (h : bareN n a b c = true) : (a = false → n.num = 0) ∧ (b = false → n.text = ⟨#[]⟩) ∧ (c = false → n.kids = 0) := by
  unfold bareN at h
  simp only [Bool.and_eq_true, Bool.or_eq_true, beq_iff_eq] at h
  obtain ⟨⟨h1, h2⟩, h3⟩ := h
  refine ⟨fun e => ?_, fun e => ?_, fun e => ?_⟩
  · subst e; simpa using h1
  · subst e
    rcases h2 with h2 | h2
    · cases h2
    · unfold bare0 at h2; exact of_decide_eq_true h2
  · subst e; simpa using h3
theorem tys_ok {fr : ByteArray → RecD} {tys : List (List SortD)} {ns : List NodeD} (h : Tys fr tys ns) : (∀ x ∈ ns, In64 x.num ∧ In64 x.kids) → ∀ x ∈ ns, NodeOk x := by
  induction h with
  | nil => intro _ x hx; cases hx
  | base hk h _ ih =>
    intro hi x hx
    rcases List.mem_cons.1 hx with rfl | hx
    · have p := base_p h
      have hi0 := hi x (List.mem_cons_self ..)
      refine ⟨hi0.1, hi0.2, fun e => p.two (by rw [← p.kind]; exact e), fun e => by rw [p.kids]; exact Int.le_refl _, fun e => .inl p.kids, fun e => ?_⟩
      rw [p.kind] at e
      rcases hk with hk | hk | hk | hk <;> rw [hk] at e <;> cases e
    · exact ih (fun y hy => hi y (List.mem_cons_of_mem _ hy)) x hx
  | list hk hn h h0 _ ih =>
    intro hi x hx
    rcases List.mem_cons.1 hx with rfl | hx
    · have hi0 := hi x (List.mem_cons_self ..)
      exact ⟨hi0.1, hi0.2, (fun e => by rw [hn] at e; cases e), fun _ => h0, (fun e => by rw [hn] at e; cases e), (fun e => by rw [hn] at e; cases e)⟩
    · exact ih (fun y hy => hi y (List.mem_cons_of_mem _ hy)) x hx
  | opt hk hn h h0 h1 _ ih =>
    intro hi x hx
    rcases List.mem_cons.1 hx with rfl | hx
    · have hi0 := hi x (List.mem_cons_self ..)
      exact ⟨hi0.1, hi0.2, (fun e => by rw [hn] at e; cases e), (fun e => by rw [hn] at e; cases e), (fun e => by omega), (fun e => by rw [hn] at e; cases e)⟩
    · exact ih (fun y hy => hi y (List.mem_cons_of_mem _ hy)) x hx
  | choice hk hc hn h hq h0 hi2 _ ih =>
    intro hi x hx
    rcases List.mem_cons.1 hx with rfl | hx
    · have hi0 := hi x (List.mem_cons_self ..)
      exact ⟨hi0.1, hi0.2, (fun e => by rw [hn] at e; cases e), (fun e => by rw [hn] at e; cases e), (fun e => by rw [hn] at e; cases e), fun _ => h0⟩
    · exact ih (fun y hy => hi y (List.mem_cons_of_mem _ hy)) x hx
  | record hk hc hn h hq _ ih =>
    intro hi x hx
    rcases List.mem_cons.1 hx with rfl | hx
    · have hi0 := hi x (List.mem_cons_self ..)
      exact ⟨hi0.1, hi0.2, (fun e => by rw [hn] at e; cases e), (fun e => by rw [hn] at e; cases e), (fun e => by rw [hn] at e; cases e), (fun e => by rw [hn] at e; cases e)⟩
    · exact ih (fun y hy => hi y (List.mem_cons_of_mem _ hy)) x hx
theorem node_ext {a b : NodeD} (h1 : a.kind = b.kind) (h2 : a.num = b.num) (h3 : a.text = b.text) (h4 : a.kids = b.kids) : a = b := by
  cases a; cases b
  simp only at h1 h2 h3 h4
  subst h1 h2 h3 h4
  rfl
theorem enc_free {fr : ByteArray → RecD} {tys : List (List SortD)} {ns : List NodeD} (h : Tys fr tys ns) : ∀ (ms : List NodeD) (r q : List Int), Tys fr tys ms → (∀ x ∈ ns, In64 x.num) → (∀ x ∈ ms, In64 x.num) → encs ns ++ r = encs ms ++ q → ns = ms ∧ r = q := by
  induction h with
  | nil =>
    intro ms r q hm _ _ he
    cases hm
    exact ⟨rfl, he⟩
  | @base x rr more n ns hk h ht ih =>
    intro ms r q hm hi hj he
    have p := base_p h
    cases hm with
    | @base _ _ _ m ms hk2 h2 hm2 =>
      have p2 := base_p h2
      have i1 := hi n (List.mem_cons_self ..)
      have i2 := hj m (List.mem_cons_self ..)
      have he : encN n ++ (encs ns ++ r) = encN m ++ (encs ms ++ q) := by
        have e1 : encs (n :: ns) = encN n ++ encs ns := rfl
        have e2 : encs (m :: ms) = encN m ++ encs ms := rfl
        rw [e1, e2, List.append_assoc, List.append_assoc] at he
        exact he
      have fin : n.num = m.num → n.text = m.text → encs ns ++ r = encs ms ++ q → n :: ns = m :: ms ∧ r = q := fun a b c => by
        obtain ⟨e1, e2⟩ := ih ms r q hm2 (fun y hy => hi y (List.mem_cons_of_mem _ hy)) (fun y hy => hj y (List.mem_cons_of_mem _ hy)) c
        rw [node_ext (p.kind.trans p2.kind.symm) a b (p.kids.trans p2.kids.symm), e1]
        exact ⟨rfl, e2⟩
      unfold encN at he
      rw [p.kind, p2.kind] at he
      rcases hk with hk | hk | hk | hk
      · rw [hk] at he p p2
        simp at he
        exact fin ((p.num (.inl rfl)).trans (p2.num (.inl rfl)).symm) ((p.text (by decide)).trans (p2.text (by decide)).symm) he
      · rw [hk] at he p p2
        simp at he
        exact fin he.1 ((p.text (by decide)).trans (p2.text (by decide)).symm) he.2
      · rw [hk] at he p p2
        simp at he
        obtain ⟨e1, e2⟩ := varB_free _ _ _ _ he
        exact fin (zig_inj _ _ i1 i2 e1) ((p.text (by decide)).trans (p2.text (by decide)).symm) e2
      · rw [hk] at he p p2
        simp at he
        obtain ⟨e1, e2⟩ := txtB_free n.text m.text (encs ns ++ r) (encs ms ++ q) (by unfold txtB; simpa using he)
        exact fin ((p.num (.inr rfl)).trans (p2.num (.inr rfl)).symm) e1 e2
    | list hk2 => omega
    | opt hk2 => omega
    | choice hk2 => omega
    | record hk2 => omega
  | @list x rr more n ns hk hn h h0 ht ih =>
    intro ms r q hm hi hj he
    cases hm with
    | base hk2 => omega
    | @list _ _ _ m ms hk2 hn2 h2 h02 hm2 =>
      have e1 : encs (n :: ns) = varB n.kids.toNat ++ encs ns := by show encN n ++ encs ns = _; unfold encN; rw [hn]; simp
      have e2 : encs (m :: ms) = varB m.kids.toNat ++ encs ms := by show encN m ++ encs ms = _; unfold encN; rw [hn2]; simp
      rw [e1, e2, List.append_assoc, List.append_assoc] at he
      obtain ⟨e3, e4⟩ := varB_free _ _ _ _ he
      have ek : n.kids = m.kids := by omega
      rw [ek] at ih
      obtain ⟨e5, e6⟩ := ih ms r q hm2 (fun y hy => hi y (List.mem_cons_of_mem _ hy)) (fun y hy => hj y (List.mem_cons_of_mem _ hy)) e4
      have b1 := bare_p h
      have b2 := bare_p h2
      rw [node_ext (hn.trans hn2.symm) ((b1.1 rfl).trans (b2.1 rfl).symm) ((b1.2.1 rfl).trans (b2.2.1 rfl).symm) ek, e5]
      exact ⟨rfl, e6⟩
    | opt hk2 => omega
    | choice hk2 => omega
    | record hk2 => omega
  | @opt x rr more n ns hk hn h h0 h1 ht ih =>
    intro ms r q hm hi hj he
    cases hm with
    | base hk2 => omega
    | list hk2 => omega
    | @opt _ _ _ m ms hk2 hn2 h2 h02 h12 hm2 =>
      have e1 : encs (n :: ns) = n.kids :: encs ns := by show encN n ++ encs ns = _; unfold encN; rw [hn]; simp
      have e2 : encs (m :: ms) = m.kids :: encs ms := by show encN m ++ encs ms = _; unfold encN; rw [hn2]; simp
      rw [e1, e2] at he
      simp only [List.cons_append, List.cons.injEq] at he
      obtain ⟨ek, e4⟩ := he
      rw [ek] at ih
      obtain ⟨e5, e6⟩ := ih ms r q hm2 (fun y hy => hi y (List.mem_cons_of_mem _ hy)) (fun y hy => hj y (List.mem_cons_of_mem _ hy)) e4
      have b1 := bare_p h
      have b2 := bare_p h2
      rw [node_ext (hn.trans hn2.symm) ((b1.1 rfl).trans (b2.1 rfl).symm) ((b1.2.1 rfl).trans (b2.2.1 rfl).symm) ek, e5]
      exact ⟨rfl, e6⟩
    | choice hk2 => omega
    | record hk2 => omega
  | @choice x rr more n ns hk hc hn h hq h0 hi2 ht ih =>
    intro ms r q hm hi hj he
    cases hm with
    | base hk2 => omega
    | list hk2 => omega
    | opt hk2 => omega
    | @choice _ _ _ m ms hk2 hc2 hn2 h2 hq2 h02 hi3 hm2 =>
      have e1 : encs (n :: ns) = varB n.num.toNat ++ encs ns := by show encN n ++ encs ns = _; unfold encN; rw [hn]; simp
      have e2 : encs (m :: ms) = varB m.num.toNat ++ encs ms := by show encN m ++ encs ms = _; unfold encN; rw [hn2]; simp
      rw [e1, e2, List.append_assoc, List.append_assoc] at he
      obtain ⟨e3, e4⟩ := varB_free _ _ _ _ he
      have ek : n.num = m.num := by omega
      have hm3 : Tys fr ((fr x.name).fs[n.num.toNat].ts :: more) ms := by
        have e : n.num.toNat = m.num.toNat := by rw [ek]
        simp only [e]
        exact hm2
      obtain ⟨e5, e6⟩ := ih ms r q hm3 (fun y hy => hi y (List.mem_cons_of_mem _ hy)) (fun y hy => hj y (List.mem_cons_of_mem _ hy)) e4
      have b1 := bare_p h
      have b2 := bare_p h2
      rw [node_ext (hn.trans hn2.symm) ek ((b1.2.1 rfl).trans (b2.2.1 rfl).symm) (hq.trans hq2.symm), e5]
      exact ⟨rfl, e6⟩
    | record hk2 hc2 => rw [hc] at hc2; cases hc2
  | @record x rr more n ns hk hc hn h hq ht ih =>
    intro ms r q hm hi hj he
    cases hm with
    | base hk2 => omega
    | list hk2 => omega
    | opt hk2 => omega
    | choice hk2 hc2 => rw [hc] at hc2; cases hc2
    | @record _ _ _ m ms hk2 hc2 hn2 h2 hq2 hm2 =>
      have e1 : encs (n :: ns) = encs ns := by show encN n ++ encs ns = _; unfold encN; rw [hn]; simp
      have e2 : encs (m :: ms) = encs ms := by show encN m ++ encs ms = _; unfold encN; rw [hn2]; simp
      rw [e1, e2] at he
      obtain ⟨e5, e6⟩ := ih ms r q hm2 (fun y hy => hi y (List.mem_cons_of_mem _ hy)) (fun y hy => hj y (List.mem_cons_of_mem _ hy)) he
      have b1 := bare_p h
      have b2 := bare_p h2
      rw [node_ext (hn.trans hn2.symm) ((b1.1 rfl).trans (b2.1 rfl).symm) ((b1.2.1 rfl).trans (b2.2.1 rfl).symm) (hq.trans hq2.symm), e5]
      exact ⟨rfl, e6⟩
theorem encs_bys : ∀ (ns : List NodeD), (∀ x ∈ ns, NodeOk x) → Bys (encs ns)
  | [], _ => fun z hz => by cases hz
  | x :: ns, h => by
    have h1 := encs_bys ns (fun y hy => h y (List.mem_cons_of_mem _ hy))
    have o := h x (List.mem_cons_self ..)
    have e1 : encs (x :: ns) = encN x ++ encs ns := rfl
    rw [e1]
    refine Bys.app ?_ h1
    unfold encN
    repeat' split
    · rename_i hk; intro z hz; simp at hz; have := o.k2 hk; omega
    · exact varB_bys _
    · exact (varB_bys _).app (bytes_bys _)
    · exact varB_bys _
    · rename_i hk; intro z hz; simp at hz; have := o.k6 hk; omega
    · exact varB_bys _
    · intro z hz; cases hz
/-- The bytes of two values of one type are alike just if the values are. -/
theorem value_law {s : SchD} {ts : List SortD} {ns ms : List NodeD} (h : FitsP s ts ns) (h2 : FitsP s ts ms) (hn : ∀ x ∈ ns, In64 x.num ∧ In64 x.kids) (hm : ∀ x ∈ ms, In64 x.num ∧ In64 x.kids) : strOfNums (encs ns) = strOfNums (encs ms) ↔ ns = ms := by
  constructor
  · intro he
    have h3 := strOfNums_inj _ _ (encs_bys ns (tys_ok h.tys hn)) (encs_bys ms (tys_ok h2.tys hm)) he
    exact (enc_free h.tys ms [] [] h2.tys (fun x hx => (hn x hx).1) (fun x hx => (hm x hx).1) (by rw [h3])).1
  · rintro rfl; rfl
end Go.Proofs.YtnljdcghaecdaaaGreatDoor
namespace Go.Proofs.YtnljdcghaecdaaaGreatDoor
open Go.RowKit Go.Lib Go.Maps
attribute [local go_sem] Oper.semAt_some

def QuietB (b : Bool) (w : World) (e : Ending) (w' : World) : Prop := e = .returned (.bool b) ∧ ∃ d, w' = w.drewN d
set_option maxRecDepth 100000 in
set_option maxHeartbeats 8000000 in
theorem same_any (nv mv : Value) (ns ms : List NodeD) (w : World) (hn : NodesAt w nv ns) (hm : NodesAt w mv ms) (hnl : ns.length ≤ 100000) (hml : ms.length ≤ 100000) (r : Bool) (hr : r = true ↔ ns = ms) :
    Calls Tryz.prog 8 #[nv, mv] w (QuietB r w) := by
  have HN := hide hn
  have HM := hide hm
  have HR := hide hr
  obtain ⟨An, cn, rfl⟩ := hn.shape
  obtain ⟨Am, cm, rfl⟩ := hm.shape
  obtain ⟨q, hq⟩ : ∃ q, q = ns.length := ⟨_, rfl⟩
  obtain ⟨p, hp⟩ : ∃ q, q = ms.length := ⟨_, rfl⟩
  have HQ := hide hq
  have HP := hide hp
  rw [← hq] at hnl ⊢
  rw [← hp] at hml ⊢
  clear hn hm hr hq hp
  by_cases hqp : q = p
  · subst hqp
    go_enter Tryz.func8, Tryz.ntmps8
    go_wp2_with fail
    go_loopw [5] (fun s5 wr => ∃ k : Nat, k ≤ q ∧ s5 = .int .i64 k ∧ Hid (∃ d, wr = w.drewN d) ∧ Hid (ns.take k = ms.take k)) (fun s5 _ => q - (intOf s5).toNat)
    case atStart => exact ⟨0, by omega, rfl, hide ⟨0, rfl⟩, hide (by simp)⟩
    case round =>
      obtain ⟨k, hk, rfl, HD, HT⟩ := hrel
      have HTW : Hid (Turn (fun _ => False) w wr) := hide (by obtain ⟨d, rfl⟩ := HD.out; exact (Turn.refl _ w).drewN d)
      by_cases hlt : k < q
      · have hil : k < ns.length := by have := HQ.out; omega
        have hjl : k < ms.length := by have := HP.out; omega
        obtain ⟨b, o, rfl, _, _, hc⟩ := node_at (A := An) (c := cn) (n := ns.length) ns (NodesAt.on HN.out HTW.out) (by omega)
        obtain ⟨d0, d1, d2, d3⟩ := hc k hil
        obtain ⟨b', o', rfl, _, _, hc'⟩ := node_at (A := Am) (c := cm) (n := ms.length) ms (NodesAt.on HM.out HTW.out) (by omega)
        obtain ⟨e0, e1, e2, e3⟩ := hc' k hjl
        have NT : Hid (ns[k] = ms[k] → ns.take (k + 1) = ms.take (k + 1)) := hide (fun e => by rw [List.take_succ_eq_append_getElem hil, List.take_succ_eq_append_getElem hjl, HT.out, e])
        have NF : Hid (ns[k] ≠ ms[k] → r = false) := hide (fun e => by
          rw [Bool.eq_false_iff]
          intro h
          have := HR.out.1 h
          subst this
          exact e rfl)
        generalize ns[k] = x at *
        generalize ms[k] = y at *
        have s1 := str_eq x.text y.text
        have s1' := str_eq y.text x.text
        clear hc hc'
        have SP : x.kind ≠ y.kind ∨ (x.kind = y.kind ∧ x.num ≠ y.num) ∨ (x.kind = y.kind ∧ x.num = y.num ∧ x.text ≠ y.text) ∨ (x.kind = y.kind ∧ x.num = y.num ∧ x.text = y.text ∧ x.kids ≠ y.kids) ∨ x = y := by
          by_cases q1 : x.kind = y.kind
          · by_cases q2 : x.num = y.num
            · by_cases q3 : x.text = y.text
              · by_cases q4 : x.kids = y.kids
                · exact .inr (.inr (.inr (.inr (node_ext q1 q2 q3 q4))))
                · exact .inr (.inr (.inr (.inl ⟨q1, q2, q3, q4⟩)))
              · exact .inr (.inr (.inl ⟨q1, q2, q3⟩))
            · exact .inr (.inl ⟨q1, q2⟩)
          · exact .inl q1
        rcases SP with q1 | ⟨q1, q2⟩ | ⟨q1, q2, q3⟩ | ⟨q1, q2, q3, q4⟩ | rfl
        · have HF := hide (NF.out (fun e => q1 (by rw [e])))
          have f1 : (x.kind == y.kind) = false := by simp [q1]
          go_wp2_with fail
          go_quiet (fail)
          go_wp2_with fail
          go_ret
          exact ⟨by rw [HF.out]; rfl, by obtain ⟨d, hd⟩ := HD.out; rw [hd]; exact ⟨_, World.drewN_drewN ..⟩⟩
        · have HF := hide (NF.out (fun e => q2 (by rw [e])))
          have f1 : (x.num == y.num) = false := by simp [q2]
          rw [q1] at d0
          clear q1
          go_wp2_with fail
          go_quiet (fail)
          go_wp2_with fail
          go_ret
          exact ⟨by rw [HF.out]; rfl, by obtain ⟨d, hd⟩ := HD.out; rw [hd]; exact ⟨_, World.drewN_drewN ..⟩⟩
        · have HF := hide (NF.out (fun e => q3 (by rw [e])))
          rw [decide_eq_false q3] at s1
          rw [q1] at d0
          rw [q2] at d1
          clear q1 q2 s1'
          go_wp2_with fail
          go_quiet (fail)
          go_wp2_with fail
          go_ret
          exact ⟨by rw [HF.out]; rfl, by obtain ⟨d, hd⟩ := HD.out; rw [hd]; exact ⟨_, World.drewN_drewN ..⟩⟩
        · have HF := hide (NF.out (fun e => q4 (by rw [e])))
          have f1 : (x.kids == y.kids) = false := by simp [q4]
          rw [q1] at d0
          rw [q2] at d1
          rw [q3] at d2
          clear q1 q2 q3 s1 s1'
          go_wp2_with fail
          go_quiet (fail)
          go_wp2_with fail
          go_ret
          exact ⟨by rw [HF.out]; rfl, by obtain ⟨d, hd⟩ := HD.out; rw [hd]; exact ⟨_, World.drewN_drewN ..⟩⟩
        · have HN2 := hide (NT.out rfl)
          clear s1 s1'
          go_wp2_with fail
          go_quiet (fail)
          go_wp2_with fail
          go_roundw
          case rel => exact ⟨k + 1, by omega, by go_num, hide (by obtain ⟨d, hd⟩ := HD.out; rw [hd]; exact ⟨_, World.drewN_drewN ..⟩), HN2⟩
          case measure => simp [intOf]; omega
      · obtain rfl : k = q := by omega
        have HF : Hid (r = true) := hide (HR.out.2 (by
          have h1 := HT.out
          rw [HQ.out, List.take_length] at h1
          rw [h1, ← HQ.out, HP.out, List.take_length]))
        go_wp2_with fail
        go_ret
        exact ⟨by rw [HF.out]; rfl, HD.out⟩
  · have HF : Hid (r = false) := hide (by
      rw [Bool.eq_false_iff]
      intro h
      have := HR.out.1 h
      subst this
      exact hqp (HQ.out.trans HP.out.symm))
    have f1 : ((q : Int) == (p : Int)) = false := by rw [beq_eq_false_iff_ne]; omega
    have f2 : ((q : Int) != (p : Int)) = true := by simp; omega
    go_enter Tryz.func8, Tryz.ntmps8
    go_wp2_with fail
    go_ret
    exact ⟨by rw [HF.out]; rfl, 0, rfl⟩
end Go.Proofs.YtnljdcghaecdaaaGreatDoor
