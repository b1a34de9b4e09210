/-
  Rules: what they have in common.
-/
import Derived.Test.YtnljdcghaecdaaaGreatDoorOrr
import Derived.StillTailTactics
namespace Go.Proofs.YtnljdcghaecdaaaGreatDoor
open Go.RowKit Go.Lib Go.Maps
attribute [local go_sem] Oper.semAt_some

def dotS : ByteArray := ⟨#[46]⟩
def partS (x y : ByteArray) : ByteArray := x ++ dotS ++ y
set_option maxRecDepth 100000 in
theorem part_eq (x y : ByteArray) (w : World) (hx : x.size ≤ 100000) (hy : y.size ≤ 100000) : Calls Tryz.prog 100 #[.string x, .string y] w fun en w' => en = .returned (.string (partS x y)) ∧ w' = w := by
  have e1 : x.size + 1 ≤ 9223372036854775807 := by omega
  have e2 : x.size + 1 + y.size ≤ 9223372036854775807 := by omega
  go_enter Tryz.func100, Tryz.ntmps100
  go_wp2_with fail
  go_ret
  exact ⟨rfl, rfl⟩
set_option maxRecDepth 100000 in
theorem nth_eq (x : ByteArray) (i : Nat) (w : World) (hx : x.size ≤ 100000) (hi : i < 100) : Calls Tryz.prog 106 #[.string x, .int .i64 i] w fun en w' => en = .returned (.string (partS x ⟨(Lib.decDigits i).toArray⟩)) ∧ w' = w := by
  have C1 := hide (Tryz.strconv_Itoa_small i hi w)
  have C2 := hide (part_eq x ⟨(Lib.decDigits i).toArray⟩ w hx (by
    have := digits_short i hi
    have e : (⟨(Lib.decDigits i).toArray⟩ : ByteArray).size = (Lib.decDigits i).length := by simp [ByteArray.size]
    omega))
  generalize (⟨(Lib.decDigits i).toArray⟩ : ByteArray) = z at *
  go_enter Tryz.func106, Tryz.ntmps106
  go_wp2_with fail
  refine C1.out.mono ?_
  rintro e w1 ⟨rfl, rfl⟩
  go_wp2_with fail
  refine C2.out.mono ?_
  rintro e w2 ⟨rfl, rfl⟩
  go_wp2_with fail
  go_ret
  exact ⟨rfl, rfl⟩
theorem take_all {α : Type} {P : α → Bool} {l : List α} {k : Nat} (hk : k < l.length) : (l.take (k + 1)).all P = ((l.take k).all P && P l[k]) := by
  rw [List.take_succ_eq_append_getElem hk, List.all_append]
  simp
theorem more_all {α : Type} {P : α → Bool} {l : List α} {k : Nat} {b p r : Bool} (hp : Hid (p = (b && (l.take k).all P))) (hk : k < l.length) {x : α} (hx : Hid (x = l[k])) (hr : P x = r) : Hid ((p && r) = (b && (l.take (k + 1)).all P)) := by
  refine hide ?_
  rw [take_all hk, hp.out, ← hx.out, hr, Bool.and_assoc]
theorem end_all {α : Type} {P : α → Bool} {l : List α} {k : Nat} {b p : Bool} (hp : Hid (p = (b && (l.take k).all P))) (hk : k = l.length) : Hid (p = (b && l.all P)) := by
  refine hide ?_
  rw [hp.out, hk, List.take_length]
theorem start_all {α : Type} (P : α → Bool) (l : List α) (b : Bool) : Hid (b = (b && (l.take 0).all P)) := hide (by simp)
/-- What a rule does. -/
def RuleTo (W : World) (fb : Nat) (ts : List Thing) (ok : Bool) (en : Ending) (w' : World) : Prop := en = vd ∧ Hid (Lie W.heap.size W w' (flt fb ok :: ts))
theorem rule_to {W w' : World} {fb : Nat} {ts : List Thing} {ok p : Bool} {en : Ending} (he : en = vd) (h : Hid (Lie W.heap.size W w' (flt fb p :: ts))) (hp : p = ok) : RuleTo W fb ts ok en w' := ⟨he, hp ▸ h⟩
section
variable {W w : World}
theorem sch_in (s : SchD) (h : SchAt W s) (g : GSch s) : ∃ Ar nr cr Av nv cv Ag ng cg, schv s = .agg #[.string s.name, .slice Ar nr cr, .slice Av nv cv, .slice Ag ng cg] ∧
    Hid (RecsAt W (.slice Ar nr cr) s.rs) ∧ Hid (ServsAt W (.slice Av nv cv) s.vs) ∧ Hid (SagasAt W (.slice Ag ng cg) s.gs) ∧ Hid (∀ r ∈ s.rs, GRec r) ∧ Hid (∀ r ∈ s.vs, GServ r) ∧ Hid (∀ r ∈ s.gs, GSaga r) ∧ nr ≤ 100 ∧ nv ≤ 100 ∧ ng ≤ 100 := by
  obtain ⟨Ar, cr, e1⟩ := h.rs.1.shape
  obtain ⟨Av, cv, e2⟩ := h.vs.1.shape
  obtain ⟨Ag, cg, e3⟩ := h.gs.1.shape
  refine ⟨Ar, _, cr, Av, _, cv, Ag, _, cg, by unfold schv; rw [e1, e2, e3], hide (e1 ▸ h.rs), hide (e2 ▸ h.vs), hide (e3 ▸ h.gs), hide g.rs, hide g.vs, hide g.gs, g.nr, g.nv, g.ng⟩
theorem rd_len {m n : Nat} {A : Option Addr} {c : Nat} {k : Nat} {xs : List Value} (h : Rd W m (.slice A n c) k xs) : n = k := by
  obtain ⟨A', c', e⟩ := h.shape
  injection e
theorem recs_len {A : Option Addr} {n c : Nat} {rs : List RecD} (h : Hid (RecsAt W (.slice A n c) rs)) : n = rs.length := rd_len h.out.1
theorem servs_len {A : Option Addr} {n c : Nat} {rs : List ServD} (h : Hid (ServsAt W (.slice A n c) rs)) : n = rs.length := rd_len h.out.1
theorem sagas_len {A : Option Addr} {n c : Nat} {rs : List SagaD} (h : Hid (SagasAt W (.slice A n c) rs)) : n = rs.length := rd_len h.out.1
theorem fields_len {A : Option Addr} {n c : Nat} {rs : List FieldD} (h : Hid (FieldsAt W (.slice A n c) rs)) : n = rs.length := rd_len h.out.1
theorem meths_len {A : Option Addr} {n c : Nat} {rs : List MethD} (h : Hid (MethsAt W (.slice A n c) rs)) : n = rs.length := rd_len h.out
theorem steps_len {A : Option Addr} {n c : Nat} {rs : List StepD} (h : Hid (StepsAt W (.slice A n c) rs)) : n = rs.length := rd_len h.out
theorem rec_in {rs : List RecD} {A : Option Addr} {n c : Nat} (H : Hid (RecsAt W (.slice A n c) rs)) (G : Hid (∀ r ∈ rs, GRec r)) (T : Turn (fun _ => False) W w) {k : Nat} (hk : k < rs.length) :
    ∃ (x : RecD) (b o : Nat) (Am : Option Addr) (m cm : Nat), Hid (x = rs[k]) ∧ A = some ⟨b, o, none⟩ ∧ b < w.heap.size ∧ w.cell? ⟨b, o + k * 3, none⟩ = some (.string x.name) ∧ w.cell? ⟨b, o + k * 3 + 1, none⟩ = some (.bool x.choice) ∧ w.cell? ⟨b, o + k * 3 + 2, none⟩ = some (.slice Am m cm) ∧
      Hid (FieldsAt W (.slice Am m cm) x.fs) ∧ Hid (∀ f ∈ x.fs, GField f) ∧ x.name.size ≤ 200 ∧ m ≤ 40 := by
  obtain ⟨b, o, e, hb, _, hc⟩ := rec_at (A := A) (c := c) (n := n) rs (H.out.on T) (by omega)
  obtain ⟨d0, d1, d2⟩ := hc k hk
  obtain ⟨Am, cm, em⟩ := (H.out.2 rs[k] (List.getElem_mem hk)).1.shape
  have hg := G.out rs[k] (List.getElem_mem hk)
  refine ⟨rs[k], b, o, Am, _, cm, hide rfl, e, hb, d0, d1, by rw [d2, em], hide (em ▸ H.out.2 rs[k] (List.getElem_mem hk)), hide hg.2.2, hg.1, hg.2.1⟩
theorem serv_in {rs : List ServD} {A : Option Addr} {n c : Nat} (H : Hid (ServsAt W (.slice A n c) rs)) (G : Hid (∀ r ∈ rs, GServ r)) (T : Turn (fun _ => False) W w) {k : Nat} (hk : k < rs.length) :
    ∃ (x : ServD) (b o : Nat) (Am : Option Addr) (m cm : Nat), Hid (x = rs[k]) ∧ A = some ⟨b, o, none⟩ ∧ b < w.heap.size ∧ w.cell? ⟨b, o + k * 2, none⟩ = some (.string x.name) ∧ w.cell? ⟨b, o + k * 2 + 1, none⟩ = some (.slice Am m cm) ∧
      Hid (MethsAt W (.slice Am m cm) x.ms) ∧ Hid (∀ f ∈ x.ms, GMeth f) ∧ x.name.size ≤ 200 ∧ m ≤ 40 := by
  obtain ⟨b, o, e, hb, _, hc⟩ := serv_at (A := A) (c := c) (n := n) rs (H.out.on T) (by omega)
  obtain ⟨d0, d1⟩ := hc k hk
  obtain ⟨Am, cm, em⟩ := (H.out.2 rs[k] (List.getElem_mem hk)).shape
  have hg := G.out rs[k] (List.getElem_mem hk)
  refine ⟨rs[k], b, o, Am, _, cm, hide rfl, e, hb, d0, by rw [d1, em], hide (em ▸ H.out.2 rs[k] (List.getElem_mem hk)), hide hg.2.2, hg.1, hg.2.1⟩
theorem saga_in {rs : List SagaD} {A : Option Addr} {n c : Nat} (H : Hid (SagasAt W (.slice A n c) rs)) (G : Hid (∀ r ∈ rs, GSaga r)) (T : Turn (fun _ => False) W w) {k : Nat} (hk : k < rs.length) :
    ∃ (x : SagaD) (b o : Nat) (Am : Option Addr) (m cm : Nat), Hid (x = rs[k]) ∧ A = some ⟨b, o, none⟩ ∧ b < w.heap.size ∧ w.cell? ⟨b, o + k * 3, none⟩ = some (.string x.name) ∧ w.cell? ⟨b, o + k * 3 + 1, none⟩ = some (.string x.arg) ∧ w.cell? ⟨b, o + k * 3 + 2, none⟩ = some (.slice Am m cm) ∧
      Hid (StepsAt W (.slice Am m cm) x.ss) ∧ Hid (∀ f ∈ x.ss, GStep f) ∧ x.name.size ≤ 200 ∧ x.arg.size ≤ 200 ∧ m ≤ 40 := by
  obtain ⟨b, o, e, hb, _, hc⟩ := saga_at (A := A) (c := c) (n := n) rs (H.out.on T) (by omega)
  obtain ⟨d0, d1, d2⟩ := hc k hk
  obtain ⟨Am, cm, em⟩ := (H.out.2 rs[k] (List.getElem_mem hk)).shape
  have hg := G.out rs[k] (List.getElem_mem hk)
  refine ⟨rs[k], b, o, Am, _, cm, hide rfl, e, hb, d0, d1, by rw [d2, em], hide (em ▸ H.out.2 rs[k] (List.getElem_mem hk)), hide hg.2.2.2, hg.1, hg.2.1, hg.2.2.1⟩
theorem field_in {rs : List FieldD} {A : Option Addr} {n c : Nat} (H : Hid (FieldsAt W (.slice A n c) rs)) (G : Hid (∀ r ∈ rs, GField r)) (T : Turn (fun _ => False) W w) {k : Nat} (hk : k < rs.length) :
    ∃ (x : FieldD) (b o : Nat) (Am : Option Addr) (m cm : Nat), Hid (x = rs[k]) ∧ A = some ⟨b, o, none⟩ ∧ b < w.heap.size ∧ w.cell? ⟨b, o + k * 2, none⟩ = some (.string x.name) ∧ w.cell? ⟨b, o + k * 2 + 1, none⟩ = some (.slice Am m cm) ∧
      Hid (SortsAt W (.slice Am m cm) x.ts) ∧ x.name.size ≤ 200 ∧ x.ts.length ≤ 40 := by
  obtain ⟨b, o, e, hb, _, hc⟩ := field_at (A := A) (c := c) (n := n) rs (H.out.on T) (by omega)
  obtain ⟨d0, d1⟩ := hc k hk
  obtain ⟨Am, cm, em⟩ := (H.out.2 rs[k] (List.getElem_mem hk)).1.shape
  have hg := G.out rs[k] (List.getElem_mem hk)
  refine ⟨rs[k], b, o, Am, _, cm, hide rfl, e, hb, d0, by rw [d1, em], hide (em ▸ H.out.2 rs[k] (List.getElem_mem hk)), hg.1, hg.2.1⟩
theorem meth_in {rs : List MethD} {A : Option Addr} {n c : Nat} (H : Hid (MethsAt W (.slice A n c) rs)) (G : Hid (∀ r ∈ rs, GMeth r)) (T : Turn (fun _ => False) W w) {k : Nat} (hk : k < rs.length) :
    ∃ (x : MethD) (b o : Nat), Hid (x = rs[k]) ∧ A = some ⟨b, o, none⟩ ∧ b < w.heap.size ∧ w.cell? ⟨b, o + k * 5, none⟩ = some (.string x.name) ∧ w.cell? ⟨b, o + k * 5 + 1, none⟩ = some (.string x.arg) ∧ w.cell? ⟨b, o + k * 5 + 2, none⟩ = some (.int .u8 x.result) ∧ w.cell? ⟨b, o + k * 5 + 3, none⟩ = some (.string x.effect) ∧ w.cell? ⟨b, o + k * 5 + 4, none⟩ = some (.string x.undo) ∧
      x.name.size ≤ 200 ∧ x.arg.size ≤ 200 ∧ x.effect.size ≤ 200 ∧ x.undo.size ≤ 200 := by
  obtain ⟨b, o, e, hb, _, hc⟩ := meth_at (A := A) (c := c) (n := n) rs (MethsAt.on H.out T) (by omega)
  obtain ⟨d0, d1, d2, d3, d4⟩ := hc k hk
  have hg := G.out rs[k] (List.getElem_mem hk)
  exact ⟨rs[k], b, o, hide rfl, e, hb, d0, d1, d2, d3, d4, hg.1, hg.2.1, hg.2.2.1, hg.2.2.2⟩
theorem step_in {rs : List StepD} {A : Option Addr} {n c : Nat} (H : Hid (StepsAt W (.slice A n c) rs)) (G : Hid (∀ r ∈ rs, GStep r)) (T : Turn (fun _ => False) W w) {k : Nat} (hk : k < rs.length) :
    ∃ (x : StepD) (b o : Nat), Hid (x = rs[k]) ∧ A = some ⟨b, o, none⟩ ∧ b < w.heap.size ∧ w.cell? ⟨b, o + k * 3, none⟩ = some (.string x.srv) ∧ w.cell? ⟨b, o + k * 3 + 1, none⟩ = some (.string x.mth) ∧ w.cell? ⟨b, o + k * 3 + 2, none⟩ = some (.int .i64 x.node) ∧
      x.srv.size ≤ 200 ∧ x.mth.size ≤ 200 := by
  obtain ⟨b, o, e, hb, _, hc⟩ := step_at (A := A) (c := c) (n := n) rs (StepsAt.on H.out T) (by omega)
  obtain ⟨d0, d1, d2⟩ := hc k hk
  have hg := G.out rs[k] (List.getElem_mem hk)
  exact ⟨rs[k], b, o, hide rfl, e, hb, d0, d1, d2, hg.1, hg.2⟩
end
section
variable {B : Nat} {w0 w : World} {ts : List Thing} {T : Thing} {b : Nat} {x0 x1 x2 x3 x4 : Value} {ty : TypeId}
theorem at1 (h : Hid (Lie B w0 w ts)) (n : Nat) (hn : ts[n]? = some T) (e : Hid (T = box b (.cells #[x0] ty (0, 0)))) : w.cell? ⟨b, 0, none⟩ = some x0 := by
  have h1 := h.out.get n hn
  rw [e.out] at h1
  simp [World.cell?, show w.heap[b]? = _ from h1]
theorem at2 (h : Hid (Lie B w0 w ts)) (n : Nat) (hn : ts[n]? = some T) (e : Hid (T = box b (.cells #[x0, x1] ty (0, 0)))) : w.cell? ⟨b, 0, none⟩ = some x0 ∧ w.cell? ⟨b, 1, none⟩ = some x1 := by
  have h1 := h.out.get n hn
  rw [e.out] at h1
  exact ⟨(cell2 h1).1, (cell2 h1).2.1⟩
theorem at3 (h : Hid (Lie B w0 w ts)) (n : Nat) (hn : ts[n]? = some T) (e : Hid (T = box b (.cells #[x0, x1, x2] ty (0, 0)))) : w.cell? ⟨b, 0, none⟩ = some x0 ∧ w.cell? ⟨b, 1, none⟩ = some x1 ∧ w.cell? ⟨b, 2, none⟩ = some x2 := by
  have h1 := h.out.get n hn
  rw [e.out] at h1
  exact cell3 h1
theorem at4 (h : Hid (Lie B w0 w ts)) (n : Nat) (hn : ts[n]? = some T) (e : Hid (T = box b (.cells #[x0, x1, x2, x3] ty (0, 0)))) : w.cell? ⟨b, 0, none⟩ = some x0 ∧ w.cell? ⟨b, 1, none⟩ = some x1 ∧ w.cell? ⟨b, 2, none⟩ = some x2 ∧ w.cell? ⟨b, 3, none⟩ = some x3 := by
  have h1 := h.out.get n hn
  rw [e.out] at h1
  exact cell4 h1
theorem at5 (h : Hid (Lie B w0 w ts)) (n : Nat) (hn : ts[n]? = some T) (e : Hid (T = box b (.cells #[x0, x1, x2, x3, x4] ty (0, 0)))) : w.cell? ⟨b, 0, none⟩ = some x0 ∧ w.cell? ⟨b, 1, none⟩ = some x1 ∧ w.cell? ⟨b, 2, none⟩ = some x2 ∧ w.cell? ⟨b, 3, none⟩ = some x3 ∧ w.cell? ⟨b, 4, none⟩ = some x4 := by
  have h1 := h.out.get n hn
  rw [e.out] at h1
  exact cell5 h1
/-- A new box under a name, in a world under a name. -/
theorem lay (h : Hid (Lie B w0 w ts)) (o : Obj) : ∃ (w2 : World) (r : Nat) (T : Thing), Hid (w2 = w.alloc o) ∧ Hid (r = w.heap.size) ∧ Hid (T = box r o) ∧ Hid (Lie B w0 w2 (T :: ts)) :=
  ⟨_, _, _, hide rfl, hide rfl, hide rfl, hide (h.out.alloc o)⟩
theorem lie_turn {W : World} (h : Hid (Lie W.heap.size W w ts)) : Turn (fun _ => False) W w := turn_of h.out
theorem flt_to1 {fb : Nat} {b b' : Bool} {X : Thing} (h : Hid (Lie B w0 w (X :: flt fb b :: ts))) (e : b = b') : Hid (Lie B w0 w (X :: flt fb b' :: ts)) := e ▸ h
theorem flt_to2 {fb : Nat} {b b' : Bool} {X Y : Thing} (h : Hid (Lie B w0 w (X :: Y :: flt fb b :: ts))) (e : b = b') : Hid (Lie B w0 w (X :: Y :: flt fb b' :: ts)) := e ▸ h
theorem flt_to3 {fb : Nat} {b b' : Bool} {X Y Z : Thing} (h : Hid (Lie B w0 w (X :: Y :: Z :: flt fb b :: ts))) (e : b = b') : Hid (Lie B w0 w (X :: Y :: Z :: flt fb b' :: ts)) := e ▸ h
theorem kw_on {W w : World} (h : Hid (Kw W)) (t : Turn (fun _ => False) W w) : Kw w := h.out.turn t (fun _ _ _ h => h)
set_option maxRecDepth 100000 in
theorem one_any {W : World} {fb r3 : Nat} {ok : Bool} {PB : Thing} {ts : List Thing} {w : World} (x : ByteArray) (hk : Hid (Kw W)) (n m : Nat) (hnm : n ≠ m) (hn : ts[n]? = some (flt fb ok)) (hm : ts[m]? = some PB) (HPB : Hid (PB = box r3 (.cells #[.pointer (some ⟨fb, 0, none⟩)] 144 (0, 0)))) (L : Hid (Lie W.heap.size W w ts)) :
    Calls Tryz.prog 98 #[.string x, .pointer (some ⟨r3, 0, none⟩)] w fun en w' => en = vd ∧ Hid (Lie W.heap.size W w' (ts.set n (flt fb (ok && nameB x)))) := by
  have HNN := hide hn
  have HMM := hide hm
  have CN := hide (name_any x w.drew (kw_on hk (turn_of L.out.drew)))
  have c0 := at1 L m hm HPB
  clear hn hm
  go_enter Tryz.func98, Tryz.ntmps98
  go_region_held3 (fun W' => W'.cell? ⟨r3, 0, none⟩ = some (.pointer (some ⟨fb, 0, none⟩))) (go_keep) (first
    | (go_at_call 32; refine CN.out.mono ?_; rintro e w5 ⟨rfl, T5⟩; have S5 := hide (L.out.drew.stay T5); have c1 := at1 S5 m HMM.out HPB)
    | (go_at_call 97; refine (at_any _ _ _ (by unfold BadE; decide) n HNN.out S5.out).mono ?_; rintro e w7 ⟨rfl, S7⟩; have c2 := at1 S7 m (by rw [List.getElem?_set_ne hnm]; exact HMM.out) HPB))
  all_goals
    go_wp2_with fail
    first | refine bodyPost_ret (results_none rfl _ _ _) rfl ?_ | go_end0
    exact ⟨rfl, S7⟩
end
end Go.Proofs.YtnljdcghaecdaaaGreatDoor
