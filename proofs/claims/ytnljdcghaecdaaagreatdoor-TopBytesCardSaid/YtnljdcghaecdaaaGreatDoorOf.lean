/-
  A value of a type. (Printed by mkof.py.)
-/
import Derived.Test.YtnljdcghaecdaaaGreatDoorNam
namespace Go.Proofs.YtnljdcghaecdaaaGreatDoor
open Go.RowKit Go.Lib Go.Maps
attribute [local go_sem] Oper.semAt_some

theorem pop1_set {B : Nat} {w0 w : World} {X : Thing} {ts : List Thing} {n : Nat} {a c : Thing} (h : Hid (Lie B w0 w ((X :: ts.set n a).set (n + 1) c))) : Hid (Lie B w0 w (ts.set n c)) := pop_set h
/-- Where a list's walk is. -/
def SZ5 (W1 w' : World) (NB TB : Thing) (ts : List Thing) (n cb : Nat) (nv : Value) (at0 : Nat) (fv : Value) : Prop := Hid (Lie W1.heap.size W1 w' (NB :: TB :: ts.set n (cur cb nv (at0 + 1) fv)))
/-- What the walk of a value knows of the schema. -/
structure Env (fr : ByteArray → RecD) (W1 : World) (m3 : Nat) : Prop where
  find : ∀ (x : ByteArray) (w' : World), x.size ≤ 100000 → Turn (fun _ => False) W1 w' → Calls Tryz.prog 53 #[.string x, .pointer (some ⟨m3, 0, none⟩)] w' fun e w'' => e = .returned (recv (fr x)) ∧ Turn (fun _ => False) w' w''
  fs : ∀ x, FieldsAt W1 (fr x).fv (fr x).fs
  ty : ∀ x, ∀ f ∈ (fr x).fs, TyOk f.ts
  len : ∀ x, (fr x).fs.length ≤ 1000
theorem one_to {fr : ByteArray → RecD} {W1 w' : World} {ns : List NodeD} {nv fv : Value} {cb at0 : Nat} {ts : List Thing} {n : Nat} {x : SortD} {r : List SortD} {nd : NodeD} (hx : Hid (ns[at0]? = some nd)) (hk : x.kind = 1 ∨ x.kind = 2 ∨ x.kind = 3 ∨ x.kind = 4) (h : baseOk x.kind nd = true) (hl : Hid (Lie W1.heap.size W1 w' (ts.set n (cur cb nv (at0 + 1) fv)))) : OfTo (Takes fr ns [x :: r] at0) 0 W1 ns nv fv cb at0 ts n (.returned (.int .i64 1)) w' :=
  ⟨1, at0 + 1, rfl, by omega, (List.getElem?_eq_some_iff.1 hx.out).1, by omega, hide (fun _ => takes_base hx.out hk h), hl⟩
theorem rest_ok {x : SortD} {r : List SortD} (h : TyOk (x :: r)) (hk : x.kind = 5 ∨ x.kind = 6) : TyOk r := by
  refine ⟨?_, by have := h.len; simp at this; omega, fun z hz => h.nm z (List.mem_cons_of_mem _ hz)⟩
  have := h.wf
  unfold wfT at this
  rwa [if_pos (by unfold midK; rcases hk with hk | hk <;> simp [hk])] at this
theorem rest_cons {x : SortD} {r : List SortD} (h : TyOk (x :: r)) (hk : x.kind = 5 ∨ x.kind = 6) : ∃ y r', r = y :: r' := by
  have := (rest_ok h hk).wf
  cases r with
  | nil => cases this
  | cons y r' => exact ⟨y, r', rfl⟩
set_option maxRecDepth 100000 in
set_option maxHeartbeats 16000000 in
theorem of_step (fr : ByteArray → RecD) {W1 : World} {ns : List NodeD} {nv : Value} {m3 : Nat} (hns : Hid (NodesAt W1 nv ns)) (hnn : ns.length ≤ 100000) (HE : Hid (Env fr W1 m3)) (tv : Value) (x : SortD) (r : List SortD) (w : World) (ts : List Thing) (n cb at0 : Nat) (ht : Hid (SortsAt W1 tv (x :: r))) (hty : Hid (TyOk (x :: r)))
    (IH : Hid (at0 < ns.length → OfAll fr W1 ns nv (.func (.func 53) #[] #[.pointer (some ⟨m3, 0, none⟩)]) (ns.length - (at0 + 1)))) (hat : at0 ≤ ns.length) (hn : Hid (ts[n]? = some (cur cb nv at0 (.func (.func 53) #[] #[.pointer (some ⟨m3, 0, none⟩)])))) (L : Hid (Lie W1.heap.size W1 w ts)) :
    Calls Tryz.prog 30 #[.pointer (some ⟨cb, 0, none⟩), tv] w (OfTo (Takes fr ns [x :: r] at0) 0 W1 ns nv (.func (.func 53) #[] #[.pointer (some ⟨m3, 0, none⟩)]) cb at0 ts n) := by
  obtain ⟨A, c, rfl⟩ := ht.out.1.shape
  obtain ⟨b, o, rfl, _, _, _⟩ := sort_at (A := A) (c := c) (n := (x :: r).length) (x :: r) ht.out (by simp)
  obtain ⟨l, hl⟩ : ∃ l, l = (x :: r).length := ⟨_, rfl⟩
  have hl1 : (0 : Int) < (l : Int) := by rw [hl]; simp only [List.length_cons]; omega
  have hl2 : 0 < l := by rw [hl]; simp
  have HLL := hide hl
  rw [← hl]
  rw [← hl] at ht
  clear hl
  obtain ⟨w2, r3, TB, HW2, HR2, HTB, S2⟩ := lay L (.cells #[.slice (some ⟨b, o, none⟩) l c] 27)
  have S0 : Hid (Lie W1.heap.size W1 w2 (TB :: ts.set n (cur cb nv at0 (.func (.func 53) #[] #[.pointer (some ⟨m3, 0, none⟩)])))) := hide (by rw [set_self hn.out]; exact S2.out)
  have t0 := at1 S2 0 rfl HTB
  have SRT := hide (fun (w' : World) (T : Turn (fun _ => False) W1 w') => (by
    obtain ⟨b', o', e, _, _, hc⟩ := sort_at (A := some ⟨b, o, none⟩) (c := c) (n := l) (x :: r) (ht.out.on T) (by simp)
    injection e with e
    injection e with e1 e2
    subst e1 e2
    have := hc 0 (by simp)
    simpa using this : w'.cell? ⟨b, o, none⟩ = some (.int .u8 x.kind) ∧ w'.cell? ⟨b, o + 1, none⟩ = some (.string x.name)))
  obtain ⟨k0, k1⟩ := SRT.out w2 (lie_turn S2)
  have hxn := hty.out.nm x (by simp)
  have HC1 := hide (fun k => next_any k at0 (n + 1) hns hnn hat hn.out S2)
  obtain ⟨fv, hfv⟩ : ∃ fv : Value, fv = .func (.func 53) #[] #[.pointer (some ⟨m3, 0, none⟩)] := ⟨_, rfl⟩
  have HFV := hide hfv
  have HXK : Hid (x.kind = x.kind) := hide rfl
  clear HXK
  obtain ⟨xk, hxk⟩ : ∃ xk, xk = x.kind := ⟨_, rfl⟩
  have HXK := hide hxk
  rw [← hxk] at k0 SRT
  rw [HW2.out] at t0 k0 k1
  rw [HR2.out] at t0
  rw [← hfv] at IH hn S0 HC1 ⊢
  clear hxk hfv

  by_cases h1 : xk = 1
  · skip
    subst h1
    have C1 := hide (HC1.out 1)
    clear HC1
    go_enter Tryz.func30, Tryz.ntmps30
    go_wp2_with fail
    rw [← HW2.out, ← HR2.out]
    refine C1.out.mono ?_
    rintro e w3 ⟨nd, ok, rfl, hok, hno⟩
    clear C1 t0 k0 k1
    cases ok with
    | false =>
      have S3 := hno rfl
      clear hok hno
      go_wp2_with (go_at_call 55; refine (one1_any false _).mono ?_; rintro e w4 ⟨rfl, rfl⟩)
      go_ret
      exact of_zero (Nat.le_refl _) hat (hide (by rw [set_self hn.out]; exact (S3.out.skip _).pop))
    | true =>
      obtain ⟨hx, hkk, S3⟩ := hok rfl
      have S3 : Hid (Lie W1.heap.size W1 w3 (TB :: ts.set n (cur cb nv (at0 + 1) fv))) := S3
      have hlt := (List.getElem?_eq_some_iff.1 hx).1
      have HX := hide hx
      have HKK := hide hkk
      clear hok hno hx hkk
      obtain ⟨w4, r5, NB, HW4, HR4, HNB, S4⟩ := lay S3 (.cells #[.int .u8 nd.kind, .int .i64 nd.num, .string nd.text, .int .i64 nd.kids] 46)
      obtain ⟨n0, n1, n2, n3⟩ := at4 S4 0 rfl HNB
      have t0 := at1 S4 1 rfl HTB
      rw [HW4.out] at n0 n1 n2 n3 t0
      rw [HR4.out] at n0 n1 n2 n3
      have CB := hide (bare_any nd false false false w4)
      have HBO : Hid (∀ q : Bool, bareN nd false false false = q → baseOk 1 nd = (q)) := hide (fun q hq => by unfold baseOk; simp only [HKK.out]; simp [hq])
      generalize hbn : bareN nd false false false = bn at *
      have HBO2 := hide (HBO.out bn rfl)
      clear HBO hbn
      cases bn with
      | false =>
        go_wp2_with fail
        rw [← HW4.out, ← HR4.out]
        refine CB.out.mono ?_
        rintro e w5 ⟨rfl, T5⟩
        have S5 := hide (S4.out.stay T5)
        clear n0 n1 n2 n3 t0 CB T5
        go_wp2_with (go_at_call 55; refine (one1_any _ _).mono ?_; rintro e w6 ⟨rfl, rfl⟩)
        go_ret
        exact of_zero (by omega) (by omega) (hide S5.out.pop.pop)
      | true =>
        go_wp2_with fail
        rw [← HW4.out, ← HR4.out]
        refine CB.out.mono ?_
        rintro e w5 ⟨rfl, T5⟩
        have S5 := hide (S4.out.stay T5)
        clear n0 n1 n2 n3 t0 CB T5
        go_wp2_with (go_at_call 55; refine (one1_any _ _).mono ?_; rintro e w6 ⟨rfl, rfl⟩)
        go_ret
        exact one_to HX (by rw [← HXK.out]; simp) (by rw [← HXK.out, HBO2.out]) (hide S5.out.pop.pop)
  by_cases h2 : xk = 2
  · skip
    subst h2
    have C1 := hide (HC1.out 2)
    clear HC1
    go_enter Tryz.func30, Tryz.ntmps30
    go_wp2_with fail
    rw [← HW2.out, ← HR2.out]
    refine C1.out.mono ?_
    rintro e w3 ⟨nd, ok, rfl, hok, hno⟩
    clear C1 t0 k0 k1
    cases ok with
    | false =>
      have S3 := hno rfl
      clear hok hno
      go_wp2_with (go_at_call 55; refine (one1_any false _).mono ?_; rintro e w4 ⟨rfl, rfl⟩)
      go_ret
      exact of_zero (Nat.le_refl _) hat (hide (by rw [set_self hn.out]; exact (S3.out.skip _).pop))
    | true =>
      obtain ⟨hx, hkk, S3⟩ := hok rfl
      have S3 : Hid (Lie W1.heap.size W1 w3 (TB :: ts.set n (cur cb nv (at0 + 1) fv))) := S3
      have hlt := (List.getElem?_eq_some_iff.1 hx).1
      have HX := hide hx
      have HKK := hide hkk
      clear hok hno hx hkk
      obtain ⟨w4, r5, NB, HW4, HR4, HNB, S4⟩ := lay S3 (.cells #[.int .u8 nd.kind, .int .i64 nd.num, .string nd.text, .int .i64 nd.kids] 46)
      obtain ⟨n0, n1, n2, n3⟩ := at4 S4 0 rfl HNB
      have t0 := at1 S4 1 rfl HTB
      rw [HW4.out] at n0 n1 n2 n3 t0
      rw [HR4.out] at n0 n1 n2 n3
      have CB := hide (bare_any nd true false false w4)
      have HBO : Hid (∀ q : Bool, bareN nd true false false = q → baseOk 2 nd = (q && (decide (0 ≤ nd.num) && decide (nd.num ≤ 1)))) := hide (fun q hq => by unfold baseOk; simp only [HKK.out]; simp [hq])
      generalize hbn : bareN nd true false false = bn at *
      have HBO2 := hide (HBO.out bn rfl)
      clear HBO hbn
      cases bn with
      | false =>
        go_wp2_with fail
        rw [← HW4.out, ← HR4.out]
        refine CB.out.mono ?_
        rintro e w5 ⟨rfl, T5⟩
        have S5 := hide (S4.out.stay T5)
        clear n0 n1 n2 n3 t0 CB T5
        go_wp2_with (go_at_call 55; refine (one1_any _ _).mono ?_; rintro e w6 ⟨rfl, rfl⟩)
        go_ret
        exact of_zero (by omega) (by omega) (hide S5.out.pop.pop)
      | true =>
        by_cases q0 : 0 ≤ nd.num
        · by_cases q1 : nd.num ≤ 1
          · skip
            go_wp2_with fail
            rw [← HW4.out, ← HR4.out]
            refine CB.out.mono ?_
            rintro e w5 ⟨rfl, T5⟩
            have S5 := hide (S4.out.stay T5)
            clear n0 n1 n2 n3 t0 CB T5
            obtain ⟨n0, n1, n2, n3⟩ := at4 S5 0 rfl HNB
            go_wp2_with (go_at_call 55; refine (one1_any _ _).mono ?_; rintro e w6 ⟨rfl, rfl⟩)
            go_ret
            exact one_to HX (by rw [← HXK.out]; simp) (by rw [← HXK.out, HBO2.out]; simp [q0, q1]) (hide S5.out.pop.pop)
          · have q2 : 1 < nd.num := by omega
            go_wp2_with fail
            rw [← HW4.out, ← HR4.out]
            refine CB.out.mono ?_
            rintro e w5 ⟨rfl, T5⟩
            have S5 := hide (S4.out.stay T5)
            clear n0 n1 n2 n3 t0 CB T5
            obtain ⟨n0, n1, n2, n3⟩ := at4 S5 0 rfl HNB
            go_wp2_with (go_at_call 55; refine (one1_any _ _).mono ?_; rintro e w6 ⟨rfl, rfl⟩)
            go_ret
            exact of_zero (by omega) (by omega) (hide S5.out.pop.pop)
        · have q2 : nd.num < 0 := by omega
          go_wp2_with fail
          rw [← HW4.out, ← HR4.out]
          refine CB.out.mono ?_
          rintro e w5 ⟨rfl, T5⟩
          have S5 := hide (S4.out.stay T5)
          clear n0 n1 n2 n3 t0 CB T5
          obtain ⟨n0, n1, n2, n3⟩ := at4 S5 0 rfl HNB
          go_wp2_with (go_at_call 55; refine (one1_any _ _).mono ?_; rintro e w6 ⟨rfl, rfl⟩)
          go_ret
          exact of_zero (by omega) (by omega) (hide S5.out.pop.pop)
  by_cases h3 : xk = 3
  · skip
    subst h3
    have C1 := hide (HC1.out 3)
    clear HC1
    go_enter Tryz.func30, Tryz.ntmps30
    go_wp2_with fail
    rw [← HW2.out, ← HR2.out]
    refine C1.out.mono ?_
    rintro e w3 ⟨nd, ok, rfl, hok, hno⟩
    clear C1 t0 k0 k1
    cases ok with
    | false =>
      have S3 := hno rfl
      clear hok hno
      go_wp2_with (go_at_call 55; refine (one1_any false _).mono ?_; rintro e w4 ⟨rfl, rfl⟩)
      go_ret
      exact of_zero (Nat.le_refl _) hat (hide (by rw [set_self hn.out]; exact (S3.out.skip _).pop))
    | true =>
      obtain ⟨hx, hkk, S3⟩ := hok rfl
      have S3 : Hid (Lie W1.heap.size W1 w3 (TB :: ts.set n (cur cb nv (at0 + 1) fv))) := S3
      have hlt := (List.getElem?_eq_some_iff.1 hx).1
      have HX := hide hx
      have HKK := hide hkk
      clear hok hno hx hkk
      obtain ⟨w4, r5, NB, HW4, HR4, HNB, S4⟩ := lay S3 (.cells #[.int .u8 nd.kind, .int .i64 nd.num, .string nd.text, .int .i64 nd.kids] 46)
      obtain ⟨n0, n1, n2, n3⟩ := at4 S4 0 rfl HNB
      have t0 := at1 S4 1 rfl HTB
      rw [HW4.out] at n0 n1 n2 n3 t0
      rw [HR4.out] at n0 n1 n2 n3
      have CB := hide (bare_any nd true false false w4)
      have HBO : Hid (∀ q : Bool, bareN nd true false false = q → baseOk 3 nd = (q)) := hide (fun q hq => by unfold baseOk; simp only [HKK.out]; simp [hq])
      generalize hbn : bareN nd true false false = bn at *
      have HBO2 := hide (HBO.out bn rfl)
      clear HBO hbn
      cases bn with
      | false =>
        go_wp2_with fail
        rw [← HW4.out, ← HR4.out]
        refine CB.out.mono ?_
        rintro e w5 ⟨rfl, T5⟩
        have S5 := hide (S4.out.stay T5)
        clear n0 n1 n2 n3 t0 CB T5
        go_wp2_with (go_at_call 55; refine (one1_any _ _).mono ?_; rintro e w6 ⟨rfl, rfl⟩)
        go_ret
        exact of_zero (by omega) (by omega) (hide S5.out.pop.pop)
      | true =>
        go_wp2_with fail
        rw [← HW4.out, ← HR4.out]
        refine CB.out.mono ?_
        rintro e w5 ⟨rfl, T5⟩
        have S5 := hide (S4.out.stay T5)
        clear n0 n1 n2 n3 t0 CB T5
        go_wp2_with (go_at_call 55; refine (one1_any _ _).mono ?_; rintro e w6 ⟨rfl, rfl⟩)
        go_ret
        exact one_to HX (by rw [← HXK.out]; simp) (by rw [← HXK.out, HBO2.out]) (hide S5.out.pop.pop)
  by_cases h4 : xk = 4
  · skip
    subst h4
    have C1 := hide (HC1.out 4)
    clear HC1
    go_enter Tryz.func30, Tryz.ntmps30
    go_wp2_with fail
    rw [← HW2.out, ← HR2.out]
    refine C1.out.mono ?_
    rintro e w3 ⟨nd, ok, rfl, hok, hno⟩
    clear C1 t0 k0 k1
    cases ok with
    | false =>
      have S3 := hno rfl
      clear hok hno
      go_wp2_with (go_at_call 55; refine (one1_any false _).mono ?_; rintro e w4 ⟨rfl, rfl⟩)
      go_ret
      exact of_zero (Nat.le_refl _) hat (hide (by rw [set_self hn.out]; exact (S3.out.skip _).pop))
    | true =>
      obtain ⟨hx, hkk, S3⟩ := hok rfl
      have S3 : Hid (Lie W1.heap.size W1 w3 (TB :: ts.set n (cur cb nv (at0 + 1) fv))) := S3
      have hlt := (List.getElem?_eq_some_iff.1 hx).1
      have HX := hide hx
      have HKK := hide hkk
      clear hok hno hx hkk
      obtain ⟨w4, r5, NB, HW4, HR4, HNB, S4⟩ := lay S3 (.cells #[.int .u8 nd.kind, .int .i64 nd.num, .string nd.text, .int .i64 nd.kids] 46)
      obtain ⟨n0, n1, n2, n3⟩ := at4 S4 0 rfl HNB
      have t0 := at1 S4 1 rfl HTB
      rw [HW4.out] at n0 n1 n2 n3 t0
      rw [HR4.out] at n0 n1 n2 n3
      have CB := hide (bare_any nd false true false w4)
      have HBO : Hid (∀ q : Bool, bareN nd false true false = q → baseOk 4 nd = (q)) := hide (fun q hq => by unfold baseOk; simp only [HKK.out]; simp [hq])
      generalize hbn : bareN nd false true false = bn at *
      have HBO2 := hide (HBO.out bn rfl)
      clear HBO hbn
      cases bn with
      | false =>
        go_wp2_with fail
        rw [← HW4.out, ← HR4.out]
        refine CB.out.mono ?_
        rintro e w5 ⟨rfl, T5⟩
        have S5 := hide (S4.out.stay T5)
        clear n0 n1 n2 n3 t0 CB T5
        go_wp2_with (go_at_call 55; refine (one1_any _ _).mono ?_; rintro e w6 ⟨rfl, rfl⟩)
        go_ret
        exact of_zero (by omega) (by omega) (hide S5.out.pop.pop)
      | true =>
        go_wp2_with fail
        rw [← HW4.out, ← HR4.out]
        refine CB.out.mono ?_
        rintro e w5 ⟨rfl, T5⟩
        have S5 := hide (S4.out.stay T5)
        clear n0 n1 n2 n3 t0 CB T5
        go_wp2_with (go_at_call 55; refine (one1_any _ _).mono ?_; rintro e w6 ⟨rfl, rfl⟩)
        go_ret
        exact one_to HX (by rw [← HXK.out]; simp) (by rw [← HXK.out, HBO2.out]) (hide S5.out.pop.pop)
  by_cases h5 : xk = 5
  · skip
    subst h5
    have C1 := hide (HC1.out 5)
    clear HC1
    go_enter Tryz.func30, Tryz.ntmps30
    go_wp2_with fail
    rw [← HW2.out, ← HR2.out]
    refine C1.out.mono ?_
    rintro e w3 ⟨nd, ok, rfl, hok, hno⟩
    clear C1 t0 k0 k1
    cases ok with
    | false =>
      have S3 := hno rfl
      clear hok hno
      go_wp2_with fail
      go_quiet (fail)
      go_wp2_with fail
      go_ret
      exact of_zero (Nat.le_refl _) hat (hide (by rw [set_self hn.out]; exact ((S3.out.skip _).pop).drewN _))
    | true =>
      obtain ⟨hx, hkk, S3⟩ := hok rfl
      have S3 : Hid (Lie W1.heap.size W1 w3 (TB :: ts.set n (cur cb nv (at0 + 1) fv))) := S3
      have hlt := (List.getElem?_eq_some_iff.1 hx).1
      have HX := hide hx
      have HKK := hide hkk
      clear hok hno hx hkk
      obtain ⟨w4, r5, NB, HW4, HR4, HNB, S4⟩ := lay S3 (.cells #[.int .u8 nd.kind, .int .i64 nd.num, .string nd.text, .int .i64 nd.kids] 46)
      obtain ⟨n0, n1, n2, n3⟩ := at4 S4 0 rfl HNB
      have t0 := at1 S4 1 rfl HTB
      rw [HW4.out] at n0 n1 n2 n3 t0
      rw [HR4.out] at n0 n1 n2 n3
      obtain ⟨An, cn, env⟩ := hns.out.shape
      have HCUR : Hid (∀ w' : World, SZ5 W1 w' NB TB ts n cb nv at0 fv → w'.cell? ⟨cb, 0, none⟩ = some (.slice An ns.length cn) ∧ w'.cell? ⟨cb, 1, none⟩ = some (.int .i64 ((at0 : Int) + 1))) := hide (fun w' h => by
        obtain ⟨a0, a1, _⟩ := cell3 (h.out.get (n + 2) (set_get hn.out (cur cb nv (at0 + 1) fv)))
        rw [env] at a0
        exact ⟨a0, by rw [a1, Int.natCast_succ]⟩)
      obtain ⟨qn, hqn⟩ : ∃ q, q = ns.length := ⟨_, rfl⟩
      have HQ := hide hqn
      rw [← hqn] at HCUR
      have hq1 : at0 + 1 ≤ qn := by omega
      have hq2 : qn ≤ 100000 := by omega
      have CB := hide (fun (w' : World) (h : SZ5 W1 w' NB TB ts n cb nv at0 fv) => (bare_any nd false false true w').mono (fun e w'' h2 => (⟨h2.1, hide (hide (h.out.stay h2.2))⟩ : e = .returned (.bool (bareN nd false false true)) ∧ Hid (SZ5 W1 w'' NB TB ts n cb nv at0 fv))))
      generalize hbn : bareN nd false false true = bn at *
      have HBN := hide hbn
      have S4d : SZ5 W1 w4.drew NB TB ts n cb nv at0 fv := hide S4.out.drew
      clear hbn hqn env
      rw [← HW4.out, ← HR4.out] at n0 n1 n2 n3
      rw [← HW4.out] at t0
      cases bn with
      | false =>
        go_wp2_with fail
        rw [← HW4.out, ← HR4.out]
        refine wp_region_noPanic ?_
        refine wp_region_held_drew (S := (fun w' => SZ5 W1 w' NB TB ts n cb nv at0 fv)) (by kernel_rfl) S4d (fun hHeld => ?_)
        refine wpAnyH_take (i := 0) (oi := ?oi1) (v := ?v1) ?hi1 (by kernel_rfl) (by kernel_rfl) (by kernel_rfl) ?hQ1 ?hy1 hHeld ?rest1
        case hi1 => simp only [List.getElem?_toArray, List.getElem?_cons_zero]; rfl
        case hQ1 => exact fun _ _ _ h => h
        case hy1 =>
          refine Or.inl ⟨by rfl, ?_⟩
          intro w' hSw
          go_simp
          try with_reducible rfl
        try simp only [Act.put, List.setIfInBounds_toArray, List.set_cons_zero, List.set_cons_succ]
        refine wpAnyH_take (i := 1) (oi := ?oi2) (v := ?v2) ?hi2 (by kernel_rfl) (by kernel_rfl) (by kernel_rfl) ?hQ2 ?hy2 hHeld ?rest2
        case hi2 => simp only [List.getElem?_toArray, List.getElem?_cons_succ, List.getElem?_cons_zero]; rfl
        case hQ2 => exact fun _ _ _ h => h
        case hy2 =>
          refine Or.inl ⟨by rfl, ?_⟩
          intro w' hSw
          go_simp
          try with_reducible rfl
        try simp only [Act.put, List.setIfInBounds_toArray, List.set_cons_zero, List.set_cons_succ]
        refine wpAnyH_take (i := 2) (oi := ?oi3) (v := ?v3) ?hi3 (by kernel_rfl) (by kernel_rfl) (by kernel_rfl) ?hQ3 ?hy3 hHeld ?rest3
        case hi3 => simp only [List.getElem?_toArray, List.getElem?_cons_succ, List.getElem?_cons_zero]; rfl
        case hQ3 => exact fun _ _ _ h => h
        case hy3 =>
          refine Or.inl ⟨by rfl, ?_⟩
          intro w' hSw
          go_simp
          try with_reducible rfl
        try simp only [Act.put, List.setIfInBounds_toArray, List.set_cons_zero, List.set_cons_succ]
        refine wpAnyH_take (i := 3) (oi := ?oi4) (v := ?v4) ?hi4 (by kernel_rfl) (by kernel_rfl) (by kernel_rfl) ?hQ4 ?hy4 hHeld ?rest4
        case hi4 => simp only [List.getElem?_toArray, List.getElem?_cons_succ, List.getElem?_cons_zero]; rfl
        case hQ4 => exact fun _ _ _ h => h
        case hy4 =>
          refine Or.inl ⟨by rfl, ?_⟩
          intro w' hSw
          obtain ⟨a0, a1, a2, a3⟩ := at4 hSw 0 rfl HNB
          go_simp
          try with_reducible rfl
        try simp only [Act.put, List.setIfInBounds_toArray, List.set_cons_zero, List.set_cons_succ]
        refine wpAnyH_ready (rs := [4]) (by kernel_rfl) (by simp) ?_
        refine AllReadyH.cons (o := ?oi5) ?hi5 ?st5 AllReadyH.nil
        case hi5 => simp only [List.getElem?_toArray, List.getElem?_cons_succ, List.getElem?_cons_zero]; rfl
        intro K hK
        go_simp
        go_at_call 56
        refine (CB.out _ (by assumption)).mono ?_
        rintro e wz ⟨rfl, SZ⟩
        try go_wp2_with fail
        refine hK.out _ _ SZ.out (fun hNew => ?_)
        clear hK K SZ hHeld
        have hHeld := hNew
        clear hNew
        try simp only [Act.put, List.setIfInBounds_toArray, List.set_cons_zero, List.set_cons_succ]
        refine wpAnyH_take (i := 5) (oi := ?oi6) (v := ?v6) ?hi6 (by kernel_rfl) (by kernel_rfl) (by kernel_rfl) ?hQ6 ?hy6 hHeld ?rest6
        case hi6 => simp only [List.getElem?_toArray, List.getElem?_cons_succ, List.getElem?_cons_zero]; rfl
        case hQ6 => exact fun _ _ _ h => h
        case hy6 =>
          refine Or.inl ⟨by rfl, ?_⟩
          intro w' hSw
          go_simp
          try with_reducible rfl
        try simp only [Act.put, List.setIfInBounds_toArray, List.set_cons_zero, List.set_cons_succ]
        refine wpAnyH_take (i := 6) (oi := ?oi7) (v := ?v7) ?hi7 (by kernel_rfl) (by kernel_rfl) (by kernel_rfl) ?hQ7 ?hy7 hHeld ?rest7
        case hi7 => simp only [List.getElem?_toArray, List.getElem?_cons_succ, List.getElem?_cons_zero]; rfl
        case hQ7 => exact fun _ _ _ h => h
        case hy7 =>
          refine Or.inl ⟨by rfl, ?_⟩
          intro w' hSw
          go_simp
          try with_reducible rfl
        try simp only [Act.put, List.setIfInBounds_toArray, List.set_cons_zero, List.set_cons_succ]
        refine wpAnyH_take (i := 7) (oi := ?oi8) (v := ?v8) ?hi8 (by kernel_rfl) (by kernel_rfl) (by kernel_rfl) ?hQ8 ?hy8 hHeld ?rest8
        case hi8 => simp only [List.getElem?_toArray, List.getElem?_cons_succ, List.getElem?_cons_zero]; rfl
        case hQ8 => exact fun _ _ _ h => h
        case hy8 =>
          refine Or.inl ⟨by rfl, ?_⟩
          intro w' hSw
          go_simp
          try with_reducible rfl
        try simp only [Act.put, List.setIfInBounds_toArray, List.set_cons_zero, List.set_cons_succ]
        refine wpAnyH_take (i := 8) (oi := ?oi9) (v := undef) ?hi9 (by kernel_rfl) (by kernel_rfl) (by kernel_rfl) ?hQ9 ?hy9 hHeld ?rest9
        case hi9 => simp only [List.getElem?_toArray, List.getElem?_cons_succ, List.getElem?_cons_zero]; rfl
        case hQ9 => exact fun _ _ _ h => h
        case hy9 => exact Or.inr ⟨by rfl, rfl⟩
        try simp only [Act.put, List.setIfInBounds_toArray, List.set_cons_zero, List.set_cons_succ]
        refine wpAnyH_take (i := 9) (oi := ?oi10) (v := undef) ?hi10 (by kernel_rfl) (by kernel_rfl) (by kernel_rfl) ?hQ10 ?hy10 hHeld ?rest10
        case hi10 => simp only [List.getElem?_toArray, List.getElem?_cons_succ, List.getElem?_cons_zero]; rfl
        case hQ10 => exact fun _ _ _ h => h
        case hy10 => exact Or.inr ⟨by rfl, rfl⟩
        try simp only [Act.put, List.setIfInBounds_toArray, List.set_cons_zero, List.set_cons_succ]
        refine wpAnyH_take (i := 10) (oi := ?oi11) (v := undef) ?hi11 (by kernel_rfl) (by kernel_rfl) (by kernel_rfl) ?hQ11 ?hy11 hHeld ?rest11
        case hi11 => simp only [List.getElem?_toArray, List.getElem?_cons_succ, List.getElem?_cons_zero]; rfl
        case hQ11 => exact fun _ _ _ h => h
        case hy11 => exact Or.inr ⟨by rfl, rfl⟩
        try simp only [Act.put, List.setIfInBounds_toArray, List.set_cons_zero, List.set_cons_succ]
        refine wpAnyH_take (i := 11) (oi := ?oi12) (v := ?v12) ?hi12 (by kernel_rfl) (by kernel_rfl) (by kernel_rfl) ?hQ12 ?hy12 hHeld ?rest12
        case hi12 => simp only [List.getElem?_toArray, List.getElem?_cons_succ, List.getElem?_cons_zero]; rfl
        case hQ12 => exact fun _ _ _ h => h
        case hy12 =>
          refine Or.inl ⟨by rfl, ?_⟩
          intro w' hSw
          go_simp
          try with_reducible rfl
        try simp only [Act.put, List.setIfInBounds_toArray, List.set_cons_zero, List.set_cons_succ]
        refine wpAnyH_take (i := 12) (oi := ?oi13) (v := ?v13) ?hi13 (by kernel_rfl) (by kernel_rfl) (by kernel_rfl) ?hQ13 ?hy13 hHeld ?rest13
        case hi13 => simp only [List.getElem?_toArray, List.getElem?_cons_succ, List.getElem?_cons_zero]; rfl
        case hQ13 => exact fun _ _ _ h => h
        case hy13 =>
          refine Or.inl ⟨by rfl, ?_⟩
          intro w' hSw
          go_simp
          try with_reducible rfl
        try simp only [Act.put, List.setIfInBounds_toArray, List.set_cons_zero, List.set_cons_succ]
        refine wpAnyH_take (i := 13) (oi := ?oi14) (v := undef) ?hi14 (by kernel_rfl) (by kernel_rfl) (by kernel_rfl) ?hQ14 ?hy14 hHeld ?rest14
        case hi14 => simp only [List.getElem?_toArray, List.getElem?_cons_succ, List.getElem?_cons_zero]; rfl
        case hQ14 => exact fun _ _ _ h => h
        case hy14 => exact Or.inr ⟨by rfl, rfl⟩
        try simp only [Act.put, List.setIfInBounds_toArray, List.set_cons_zero, List.set_cons_succ]
        refine wpAnyH_take (i := 14) (oi := ?oi15) (v := undef) ?hi15 (by kernel_rfl) (by kernel_rfl) (by kernel_rfl) ?hQ15 ?hy15 hHeld ?rest15
        case hi15 => simp only [List.getElem?_toArray, List.getElem?_cons_succ, List.getElem?_cons_zero]; rfl
        case hQ15 => exact fun _ _ _ h => h
        case hy15 => exact Or.inr ⟨by rfl, rfl⟩
        try simp only [Act.put, List.setIfInBounds_toArray, List.set_cons_zero, List.set_cons_succ]
        refine wpAnyH_take (i := 15) (oi := ?oi16) (v := undef) ?hi16 (by kernel_rfl) (by kernel_rfl) (by kernel_rfl) ?hQ16 ?hy16 hHeld ?rest16
        case hi16 => simp only [List.getElem?_toArray, List.getElem?_cons_succ, List.getElem?_cons_zero]; rfl
        case hQ16 => exact fun _ _ _ h => h
        case hy16 => exact Or.inr ⟨by rfl, rfl⟩
        try simp only [Act.put, List.setIfInBounds_toArray, List.set_cons_zero, List.set_cons_succ]
        refine wpAnyH_take (i := 16) (oi := ?oi17) (v := undef) ?hi17 (by kernel_rfl) (by kernel_rfl) (by kernel_rfl) ?hQ17 ?hy17 hHeld ?rest17
        case hi17 => simp only [List.getElem?_toArray, List.getElem?_cons_succ, List.getElem?_cons_zero]; rfl
        case hQ17 => exact fun _ _ _ h => h
        case hy17 => exact Or.inr ⟨by rfl, rfl⟩
        try simp only [Act.put, List.setIfInBounds_toArray, List.set_cons_zero, List.set_cons_succ]
        refine wpAnyH_take (i := 17) (oi := ?oi18) (v := undef) ?hi18 (by kernel_rfl) (by kernel_rfl) (by kernel_rfl) ?hQ18 ?hy18 hHeld ?rest18
        case hi18 => simp only [List.getElem?_toArray, List.getElem?_cons_succ, List.getElem?_cons_zero]; rfl
        case hQ18 => exact fun _ _ _ h => h
        case hy18 => exact Or.inr ⟨by rfl, rfl⟩
        try simp only [Act.put, List.setIfInBounds_toArray, List.set_cons_zero, List.set_cons_succ]
        refine wpAnyH_take (i := 18) (oi := ?oi19) (v := undef) ?hi19 (by kernel_rfl) (by kernel_rfl) (by kernel_rfl) ?hQ19 ?hy19 hHeld ?rest19
        case hi19 => simp only [List.getElem?_toArray, List.getElem?_cons_succ, List.getElem?_cons_zero]; rfl
        case hQ19 => exact fun _ _ _ h => h
        case hy19 => exact Or.inr ⟨by rfl, rfl⟩
        try simp only [Act.put, List.setIfInBounds_toArray, List.set_cons_zero, List.set_cons_succ]
        refine wpAnyH_take (i := 19) (oi := ?oi20) (v := undef) ?hi20 (by kernel_rfl) (by kernel_rfl) (by kernel_rfl) ?hQ20 ?hy20 hHeld ?rest20
        case hi20 => simp only [List.getElem?_toArray, List.getElem?_cons_succ, List.getElem?_cons_zero]; rfl
        case hQ20 => exact fun _ _ _ h => h
        case hy20 => exact Or.inr ⟨by rfl, rfl⟩
        try simp only [Act.put, List.setIfInBounds_toArray, List.set_cons_zero, List.set_cons_succ]
        refine wpAnyH_take (i := 20) (oi := ?oi21) (v := undef) ?hi21 (by kernel_rfl) (by kernel_rfl) (by kernel_rfl) ?hQ21 ?hy21 hHeld ?rest21
        case hi21 => simp only [List.getElem?_toArray, List.getElem?_cons_succ, List.getElem?_cons_zero]; rfl
        case hQ21 => exact fun _ _ _ h => h
        case hy21 => exact Or.inr ⟨by rfl, rfl⟩
        try simp only [Act.put, List.setIfInBounds_toArray, List.set_cons_zero, List.set_cons_succ]
        refine wpAnyH_take (i := 21) (oi := ?oi22) (v := undef) ?hi22 (by kernel_rfl) (by kernel_rfl) (by kernel_rfl) ?hQ22 ?hy22 hHeld ?rest22
        case hi22 => simp only [List.getElem?_toArray, List.getElem?_cons_succ, List.getElem?_cons_zero]; rfl
        case hQ22 => exact fun _ _ _ h => h
        case hy22 => exact Or.inr ⟨by rfl, rfl⟩
        try simp only [Act.put, List.setIfInBounds_toArray, List.set_cons_zero, List.set_cons_succ]
        refine wpAnyH_take (i := 22) (oi := ?oi23) (v := undef) ?hi23 (by kernel_rfl) (by kernel_rfl) (by kernel_rfl) ?hQ23 ?hy23 hHeld ?rest23
        case hi23 => simp only [List.getElem?_toArray, List.getElem?_cons_succ, List.getElem?_cons_zero]; rfl
        case hQ23 => exact fun _ _ _ h => h
        case hy23 => exact Or.inr ⟨by rfl, rfl⟩
        try simp only [Act.put, List.setIfInBounds_toArray, List.set_cons_zero, List.set_cons_succ]
        refine wpAnyH_take (i := 23) (oi := ?oi24) (v := undef) ?hi24 (by kernel_rfl) (by kernel_rfl) (by kernel_rfl) ?hQ24 ?hy24 hHeld ?rest24
        case hi24 => simp only [List.getElem?_toArray, List.getElem?_cons_succ, List.getElem?_cons_zero]; rfl
        case hQ24 => exact fun _ _ _ h => h
        case hy24 => exact Or.inr ⟨by rfl, rfl⟩
        try simp only [Act.put, List.setIfInBounds_toArray, List.set_cons_zero, List.set_cons_succ]
        refine wpAnyH_take (i := 24) (oi := ?oi25) (v := undef) ?hi25 (by kernel_rfl) (by kernel_rfl) (by kernel_rfl) ?hQ25 ?hy25 hHeld ?rest25
        case hi25 => simp only [List.getElem?_toArray, List.getElem?_cons_succ, List.getElem?_cons_zero]; rfl
        case hQ25 => exact fun _ _ _ h => h
        case hy25 => exact Or.inr ⟨by rfl, rfl⟩
        try simp only [Act.put, List.setIfInBounds_toArray, List.set_cons_zero, List.set_cons_succ]
        refine wpAnyH_take (i := 25) (oi := ?oi26) (v := undef) ?hi26 (by kernel_rfl) (by kernel_rfl) (by kernel_rfl) ?hQ26 ?hy26 hHeld ?rest26
        case hi26 => simp only [List.getElem?_toArray, List.getElem?_cons_succ, List.getElem?_cons_zero]; rfl
        case hQ26 => exact fun _ _ _ h => h
        case hy26 => exact Or.inr ⟨by rfl, rfl⟩
        try simp only [Act.put, List.setIfInBounds_toArray, List.set_cons_zero, List.set_cons_succ]
        refine wpAnyH_take (i := 26) (oi := ?oi27) (v := ?v27) ?hi27 (by kernel_rfl) (by kernel_rfl) (by kernel_rfl) ?hQ27 ?hy27 hHeld ?rest27
        case hi27 => simp only [List.getElem?_toArray, List.getElem?_cons_succ, List.getElem?_cons_zero]; rfl
        case hQ27 => exact fun _ _ _ h => h
        case hy27 =>
          refine Or.inl ⟨by rfl, ?_⟩
          intro w' hSw
          go_simp
          try with_reducible rfl
        try simp only [Act.put, List.setIfInBounds_toArray, List.set_cons_zero, List.set_cons_succ]
        refine wpAnyH_done (by kernel_rfl) ?_ _
        refine NoPanic.normal ?_
        have S5 : Hid (Lie W1.heap.size W1 wz (NB :: TB :: ts.set n (cur cb nv (at0 + 1) fv))) := hHeld
        clear n0 n1 n2 n3 t0 CB
        go_wp2_with fail
        go_ret
        exact of_zero (by omega) (by omega) (hide S5.out.pop.pop)
      | true =>
        by_cases q0 : 0 ≤ nd.kids
        · skip
          have q0d : decide (nd.kids < 0) = false := decide_eq_false (by omega)
          have hwr : IntKind.i64.wrap ((qn : Int) - ((at0 : Int) + 1)) = (qn : Int) - ((at0 : Int) + 1) := IntWalk.i64_in _ (by omega)
          by_cases q1 : nd.kids ≤ (qn : Int) - ((at0 : Int) + 1)
          · skip
            have HWRR := hide hwr
            clear hwr
            have HQ0 := hide q0
            obtain ⟨q, hq⟩ : ∃ q : Nat, Hid (nd.kids = (q : Int)) := ⟨nd.kids.toNat, hide (by omega)⟩
            obtain ⟨y, r', hyr⟩ := rest_cons hty.out (by rw [← HXK.out]; simp)
            have HYR := hide hyr
            have hqb : q ≤ 100000 := by have := hq.out; omega
            have MN := hide (fun (w' : World) (S : Hid (Lie W1.heap.size W1 w' (NB :: TB :: ts.set n (cur cb nv (at0 + 1) fv)))) =>
              many_any fr (cnt := q) (ns.length - (at0 + 1)) (hide (IH.out hlt)) hnn (List.replicate q r) 58 #[.pointer (some ⟨r3, 0, none⟩)] (hide (.inl ⟨_, rfl, by omega⟩)) w' _ (n + 2) cb (at0 + 1) (by simp) hqb
                (hide (fun xs hxs => by
                  rw [List.eq_of_mem_replicate hxs]
                  exact rest_ok hty.out (by rw [← HXK.out]; simp)))
                (hide (fun i w'' a' hi1 Lx => by
                  have hht := ht
                  rw [HYR.out] at hht
                  have hlen : l = (x :: y :: r').length := by rw [HLL.out, HYR.out]
                  have hTB := HTB
                  rw [hlen] at hht hTB
                  exact tail58 x y r' (some ⟨b, o, none⟩) c 1 (List.replicate q r) i (by rw [List.getElem?_replicate, if_pos hi1, HYR.out]) hht rfl hTB Lx 58 (by omega)))
                (by omega) (Nat.le_refl _) (hide (set_get hn.out _)) S)
            have TKS : Hid (∀ b2, Takes fr ns (List.replicate q r) (at0 + 1) b2 → Takes fr ns [x :: r] at0 b2) := hide (fun b2 htk => takes_list HX.out HXK.out.symm HKK.out HBN.out HQ0.out (by rw [show nd.kids.toNat = q from by rw [hq.out]; rfl]; exact htk))
            clear hyr
            have hwr := HWRR.out
            go_wp2_with fail
            rw [← HW4.out, ← HR4.out]
            refine wp_region_noPanic ?_
            refine wp_region_held_drew (S := (fun w' => SZ5 W1 w' NB TB ts n cb nv at0 fv)) (by kernel_rfl) S4d (fun hHeld => ?_)
            refine wpAnyH_take (i := 0) (oi := ?oi28) (v := ?v28) ?hi28 (by kernel_rfl) (by kernel_rfl) (by kernel_rfl) ?hQ28 ?hy28 hHeld ?rest28
            case hi28 => simp only [List.getElem?_toArray, List.getElem?_cons_zero]; rfl
            case hQ28 => exact fun _ _ _ h => h
            case hy28 =>
              refine Or.inl ⟨by rfl, ?_⟩
              intro w' hSw
              go_simp
              try with_reducible rfl
            try simp only [Act.put, List.setIfInBounds_toArray, List.set_cons_zero, List.set_cons_succ]
            refine wpAnyH_take (i := 1) (oi := ?oi29) (v := ?v29) ?hi29 (by kernel_rfl) (by kernel_rfl) (by kernel_rfl) ?hQ29 ?hy29 hHeld ?rest29
            case hi29 => simp only [List.getElem?_toArray, List.getElem?_cons_succ, List.getElem?_cons_zero]; rfl
            case hQ29 => exact fun _ _ _ h => h
            case hy29 =>
              refine Or.inl ⟨by rfl, ?_⟩
              intro w' hSw
              go_simp
              try with_reducible rfl
            try simp only [Act.put, List.setIfInBounds_toArray, List.set_cons_zero, List.set_cons_succ]
            refine wpAnyH_take (i := 2) (oi := ?oi30) (v := ?v30) ?hi30 (by kernel_rfl) (by kernel_rfl) (by kernel_rfl) ?hQ30 ?hy30 hHeld ?rest30
            case hi30 => simp only [List.getElem?_toArray, List.getElem?_cons_succ, List.getElem?_cons_zero]; rfl
            case hQ30 => exact fun _ _ _ h => h
            case hy30 =>
              refine Or.inl ⟨by rfl, ?_⟩
              intro w' hSw
              go_simp
              try with_reducible rfl
            try simp only [Act.put, List.setIfInBounds_toArray, List.set_cons_zero, List.set_cons_succ]
            refine wpAnyH_take (i := 3) (oi := ?oi31) (v := ?v31) ?hi31 (by kernel_rfl) (by kernel_rfl) (by kernel_rfl) ?hQ31 ?hy31 hHeld ?rest31
            case hi31 => simp only [List.getElem?_toArray, List.getElem?_cons_succ, List.getElem?_cons_zero]; rfl
            case hQ31 => exact fun _ _ _ h => h
            case hy31 =>
              refine Or.inl ⟨by rfl, ?_⟩
              intro w' hSw
              obtain ⟨a0, a1, a2, a3⟩ := at4 hSw 0 rfl HNB
              go_simp
              try with_reducible rfl
            try simp only [Act.put, List.setIfInBounds_toArray, List.set_cons_zero, List.set_cons_succ]
            refine wpAnyH_ready (rs := [4]) (by kernel_rfl) (by simp) ?_
            refine AllReadyH.cons (o := ?oi32) ?hi32 ?st32 AllReadyH.nil
            case hi32 => simp only [List.getElem?_toArray, List.getElem?_cons_succ, List.getElem?_cons_zero]; rfl
            intro K hK
            go_simp
            go_at_call 56
            refine (CB.out _ (by assumption)).mono ?_
            rintro e wz ⟨rfl, SZ⟩
            try go_wp2_with fail
            refine hK.out _ _ SZ.out (fun hNew => ?_)
            clear hK K SZ hHeld
            have hHeld := hNew
            clear hNew
            try simp only [Act.put, List.setIfInBounds_toArray, List.set_cons_zero, List.set_cons_succ]
            refine wpAnyH_take (i := 5) (oi := ?oi33) (v := ?v33) ?hi33 (by kernel_rfl) (by kernel_rfl) (by kernel_rfl) ?hQ33 ?hy33 hHeld ?rest33
            case hi33 => simp only [List.getElem?_toArray, List.getElem?_cons_succ, List.getElem?_cons_zero]; rfl
            case hQ33 => exact fun _ _ _ h => h
            case hy33 =>
              refine Or.inl ⟨by rfl, ?_⟩
              intro w' hSw
              go_simp
              try with_reducible rfl
            try simp only [Act.put, List.setIfInBounds_toArray, List.set_cons_zero, List.set_cons_succ]
            refine wpAnyH_take (i := 6) (oi := ?oi34) (v := ?v34) ?hi34 (by kernel_rfl) (by kernel_rfl) (by kernel_rfl) ?hQ34 ?hy34 hHeld ?rest34
            case hi34 => simp only [List.getElem?_toArray, List.getElem?_cons_succ, List.getElem?_cons_zero]; rfl
            case hQ34 => exact fun _ _ _ h => h
            case hy34 =>
              refine Or.inl ⟨by rfl, ?_⟩
              intro w' hSw
              go_simp
              try with_reducible rfl
            try simp only [Act.put, List.setIfInBounds_toArray, List.set_cons_zero, List.set_cons_succ]
            refine wpAnyH_take (i := 7) (oi := ?oi35) (v := ?v35) ?hi35 (by kernel_rfl) (by kernel_rfl) (by kernel_rfl) ?hQ35 ?hy35 hHeld ?rest35
            case hi35 => simp only [List.getElem?_toArray, List.getElem?_cons_succ, List.getElem?_cons_zero]; rfl
            case hQ35 => exact fun _ _ _ h => h
            case hy35 =>
              refine Or.inl ⟨by rfl, ?_⟩
              intro w' hSw
              go_simp
              try with_reducible rfl
            try simp only [Act.put, List.setIfInBounds_toArray, List.set_cons_zero, List.set_cons_succ]
            refine wpAnyH_take (i := 8) (oi := ?oi36) (v := ?v36) ?hi36 (by kernel_rfl) (by kernel_rfl) (by kernel_rfl) ?hQ36 ?hy36 hHeld ?rest36
            case hi36 => simp only [List.getElem?_toArray, List.getElem?_cons_succ, List.getElem?_cons_zero]; rfl
            case hQ36 => exact fun _ _ _ h => h
            case hy36 =>
              refine Or.inl ⟨by rfl, ?_⟩
              intro w' hSw
              go_simp
              try with_reducible rfl
            try simp only [Act.put, List.setIfInBounds_toArray, List.set_cons_zero, List.set_cons_succ]
            refine wpAnyH_take (i := 9) (oi := ?oi37) (v := ?v37) ?hi37 (by kernel_rfl) (by kernel_rfl) (by kernel_rfl) ?hQ37 ?hy37 hHeld ?rest37
            case hi37 => simp only [List.getElem?_toArray, List.getElem?_cons_succ, List.getElem?_cons_zero]; rfl
            case hQ37 => exact fun _ _ _ h => h
            case hy37 =>
              refine Or.inl ⟨by rfl, ?_⟩
              intro w' hSw
              obtain ⟨a0, a1, a2, a3⟩ := at4 hSw 0 rfl HNB
              go_simp
              try with_reducible rfl
            try simp only [Act.put, List.setIfInBounds_toArray, List.set_cons_zero, List.set_cons_succ]
            refine wpAnyH_take (i := 10) (oi := ?oi38) (v := ?v38) ?hi38 (by kernel_rfl) (by kernel_rfl) (by kernel_rfl) ?hQ38 ?hy38 hHeld ?rest38
            case hi38 => simp only [List.getElem?_toArray, List.getElem?_cons_succ, List.getElem?_cons_zero]; rfl
            case hQ38 => exact fun _ _ _ h => h
            case hy38 =>
              refine Or.inl ⟨by rfl, ?_⟩
              intro w' hSw
              go_simp
              try with_reducible rfl
            try simp only [Act.put, List.setIfInBounds_toArray, List.set_cons_zero, List.set_cons_succ]
            refine wpAnyH_take (i := 11) (oi := ?oi39) (v := ?v39) ?hi39 (by kernel_rfl) (by kernel_rfl) (by kernel_rfl) ?hQ39 ?hy39 hHeld ?rest39
            case hi39 => simp only [List.getElem?_toArray, List.getElem?_cons_succ, List.getElem?_cons_zero]; rfl
            case hQ39 => exact fun _ _ _ h => h
            case hy39 =>
              refine Or.inl ⟨by rfl, ?_⟩
              intro w' hSw
              go_simp
              try with_reducible rfl
            try simp only [Act.put, List.setIfInBounds_toArray, List.set_cons_zero, List.set_cons_succ]
            refine wpAnyH_take (i := 12) (oi := ?oi40) (v := ?v40) ?hi40 (by kernel_rfl) (by kernel_rfl) (by kernel_rfl) ?hQ40 ?hy40 hHeld ?rest40
            case hi40 => simp only [List.getElem?_toArray, List.getElem?_cons_succ, List.getElem?_cons_zero]; rfl
            case hQ40 => exact fun _ _ _ h => h
            case hy40 =>
              refine Or.inl ⟨by rfl, ?_⟩
              intro w' hSw
              go_simp
              try with_reducible rfl
            try simp only [Act.put, List.setIfInBounds_toArray, List.set_cons_zero, List.set_cons_succ]
            refine wpAnyH_take (i := 13) (oi := ?oi41) (v := ?v41) ?hi41 (by kernel_rfl) (by kernel_rfl) (by kernel_rfl) ?hQ41 ?hy41 hHeld ?rest41
            case hi41 => simp only [List.getElem?_toArray, List.getElem?_cons_succ, List.getElem?_cons_zero]; rfl
            case hQ41 => exact fun _ _ _ h => h
            case hy41 =>
              refine Or.inl ⟨by rfl, ?_⟩
              intro w' hSw
              go_simp
              try with_reducible rfl
            try simp only [Act.put, List.setIfInBounds_toArray, List.set_cons_zero, List.set_cons_succ]
            refine wpAnyH_take (i := 14) (oi := ?oi42) (v := ?v42) ?hi42 (by kernel_rfl) (by kernel_rfl) (by kernel_rfl) ?hQ42 ?hy42 hHeld ?rest42
            case hi42 => simp only [List.getElem?_toArray, List.getElem?_cons_succ, List.getElem?_cons_zero]; rfl
            case hQ42 => exact fun _ _ _ h => h
            case hy42 =>
              refine Or.inl ⟨by rfl, ?_⟩
              intro w' hSw
              obtain ⟨a0, a1, a2, a3⟩ := at4 hSw 0 rfl HNB
              go_simp
              try with_reducible rfl
            try simp only [Act.put, List.setIfInBounds_toArray, List.set_cons_zero, List.set_cons_succ]
            refine wpAnyH_take (i := 15) (oi := ?oi43) (v := ?v43) ?hi43 (by kernel_rfl) (by kernel_rfl) (by kernel_rfl) ?hQ43 ?hy43 hHeld ?rest43
            case hi43 => simp only [List.getElem?_toArray, List.getElem?_cons_succ, List.getElem?_cons_zero]; rfl
            case hQ43 => exact fun _ _ _ h => h
            case hy43 =>
              refine Or.inl ⟨by rfl, ?_⟩
              intro w' hSw
              go_simp
              try with_reducible rfl
            try simp only [Act.put, List.setIfInBounds_toArray, List.set_cons_zero, List.set_cons_succ]
            refine wpAnyH_take (i := 16) (oi := ?oi44) (v := ?v44) ?hi44 (by kernel_rfl) (by kernel_rfl) (by kernel_rfl) ?hQ44 ?hy44 hHeld ?rest44
            case hi44 => simp only [List.getElem?_toArray, List.getElem?_cons_succ, List.getElem?_cons_zero]; rfl
            case hQ44 => exact fun _ _ _ h => h
            case hy44 =>
              refine Or.inl ⟨by rfl, ?_⟩
              intro w' hSw
              go_simp
              try with_reducible rfl
            try simp only [Act.put, List.setIfInBounds_toArray, List.set_cons_zero, List.set_cons_succ]
            refine wpAnyH_take (i := 17) (oi := ?oi45) (v := ?v45) ?hi45 (by kernel_rfl) (by kernel_rfl) (by kernel_rfl) ?hQ45 ?hy45 hHeld ?rest45
            case hi45 => simp only [List.getElem?_toArray, List.getElem?_cons_succ, List.getElem?_cons_zero]; rfl
            case hQ45 => exact fun _ _ _ h => h
            case hy45 =>
              refine Or.inl ⟨by rfl, ?_⟩
              intro w' hSw
              go_simp
              try with_reducible rfl
            try simp only [Act.put, List.setIfInBounds_toArray, List.set_cons_zero, List.set_cons_succ]
            refine wpAnyH_take (i := 18) (oi := ?oi46) (v := ?v46) ?hi46 (by kernel_rfl) (by kernel_rfl) (by kernel_rfl) ?hQ46 ?hy46 hHeld ?rest46
            case hi46 => simp only [List.getElem?_toArray, List.getElem?_cons_succ, List.getElem?_cons_zero]; rfl
            case hQ46 => exact fun _ _ _ h => h
            case hy46 =>
              refine Or.inl ⟨by rfl, ?_⟩
              intro w' hSw
              obtain ⟨a0, a1⟩ := HCUR.out w' hSw
              go_simp
              try with_reducible rfl
            try simp only [Act.put, List.setIfInBounds_toArray, List.set_cons_zero, List.set_cons_succ]
            refine wpAnyH_take (i := 19) (oi := ?oi47) (v := ?v47) ?hi47 (by kernel_rfl) (by kernel_rfl) (by kernel_rfl) ?hQ47 ?hy47 hHeld ?rest47
            case hi47 => simp only [List.getElem?_toArray, List.getElem?_cons_succ, List.getElem?_cons_zero]; rfl
            case hQ47 => exact fun _ _ _ h => h
            case hy47 =>
              refine Or.inl ⟨by rfl, ?_⟩
              intro w' hSw
              go_simp
              try with_reducible rfl
            try simp only [Act.put, List.setIfInBounds_toArray, List.set_cons_zero, List.set_cons_succ]
            refine wpAnyH_take (i := 20) (oi := ?oi48) (v := ?v48) ?hi48 (by kernel_rfl) (by kernel_rfl) (by kernel_rfl) ?hQ48 ?hy48 hHeld ?rest48
            case hi48 => simp only [List.getElem?_toArray, List.getElem?_cons_succ, List.getElem?_cons_zero]; rfl
            case hQ48 => exact fun _ _ _ h => h
            case hy48 =>
              refine Or.inl ⟨by rfl, ?_⟩
              intro w' hSw
              go_simp
              try with_reducible rfl
            try simp only [Act.put, List.setIfInBounds_toArray, List.set_cons_zero, List.set_cons_succ]
            refine wpAnyH_take (i := 21) (oi := ?oi49) (v := ?v49) ?hi49 (by kernel_rfl) (by kernel_rfl) (by kernel_rfl) ?hQ49 ?hy49 hHeld ?rest49
            case hi49 => simp only [List.getElem?_toArray, List.getElem?_cons_succ, List.getElem?_cons_zero]; rfl
            case hQ49 => exact fun _ _ _ h => h
            case hy49 =>
              refine Or.inl ⟨by rfl, ?_⟩
              intro w' hSw
              go_simp
              try with_reducible rfl
            try simp only [Act.put, List.setIfInBounds_toArray, List.set_cons_zero, List.set_cons_succ]
            refine wpAnyH_take (i := 22) (oi := ?oi50) (v := ?v50) ?hi50 (by kernel_rfl) (by kernel_rfl) (by kernel_rfl) ?hQ50 ?hy50 hHeld ?rest50
            case hi50 => simp only [List.getElem?_toArray, List.getElem?_cons_succ, List.getElem?_cons_zero]; rfl
            case hQ50 => exact fun _ _ _ h => h
            case hy50 =>
              refine Or.inl ⟨by rfl, ?_⟩
              intro w' hSw
              go_simp
              try with_reducible rfl
            try simp only [Act.put, List.setIfInBounds_toArray, List.set_cons_zero, List.set_cons_succ]
            refine wpAnyH_take (i := 23) (oi := ?oi51) (v := ?v51) ?hi51 (by kernel_rfl) (by kernel_rfl) (by kernel_rfl) ?hQ51 ?hy51 hHeld ?rest51
            case hi51 => simp only [List.getElem?_toArray, List.getElem?_cons_succ, List.getElem?_cons_zero]; rfl
            case hQ51 => exact fun _ _ _ h => h
            case hy51 =>
              refine Or.inl ⟨by rfl, ?_⟩
              intro w' hSw
              obtain ⟨a0, a1⟩ := HCUR.out w' hSw
              go_simp
              try with_reducible rfl
            try simp only [Act.put, List.setIfInBounds_toArray, List.set_cons_zero, List.set_cons_succ]
            refine wpAnyH_take (i := 24) (oi := ?oi52) (v := ?v52) ?hi52 (by kernel_rfl) (by kernel_rfl) (by kernel_rfl) ?hQ52 ?hy52 hHeld ?rest52
            case hi52 => simp only [List.getElem?_toArray, List.getElem?_cons_succ, List.getElem?_cons_zero]; rfl
            case hQ52 => exact fun _ _ _ h => h
            case hy52 =>
              refine Or.inl ⟨by rfl, ?_⟩
              intro w' hSw
              go_simp
              try with_reducible rfl
            try simp only [Act.put, List.setIfInBounds_toArray, List.set_cons_zero, List.set_cons_succ]
            refine wpAnyH_take (i := 25) (oi := ?oi53) (v := ?v53) ?hi53 (by kernel_rfl) (by kernel_rfl) (by kernel_rfl) ?hQ53 ?hy53 hHeld ?rest53
            case hi53 => simp only [List.getElem?_toArray, List.getElem?_cons_succ, List.getElem?_cons_zero]; rfl
            case hQ53 => exact fun _ _ _ h => h
            case hy53 =>
              refine Or.inl ⟨by rfl, ?_⟩
              intro w' hSw
              go_simp
              try with_reducible rfl
            try simp only [Act.put, List.setIfInBounds_toArray, List.set_cons_zero, List.set_cons_succ]
            refine wpAnyH_take (i := 26) (oi := ?oi54) (v := ?v54) ?hi54 (by kernel_rfl) (by kernel_rfl) (by kernel_rfl) ?hQ54 ?hy54 hHeld ?rest54
            case hi54 => simp only [List.getElem?_toArray, List.getElem?_cons_succ, List.getElem?_cons_zero]; rfl
            case hQ54 => exact fun _ _ _ h => h
            case hy54 =>
              refine Or.inl ⟨by rfl, ?_⟩
              intro w' hSw
              go_simp
              try with_reducible rfl
            try simp only [Act.put, List.setIfInBounds_toArray, List.set_cons_zero, List.set_cons_succ]
            refine wpAnyH_done (by kernel_rfl) ?_ _
            refine NoPanic.normal ?_
            have S5 : Hid (Lie W1.heap.size W1 wz (NB :: TB :: ts.set n (cur cb nv (at0 + 1) fv))) := hHeld
            clear n0 n1 n2 n3 t0 CB hwr
            obtain ⟨n0, n1, n2, n3⟩ := at4 S5 0 rfl HNB
            have t0 := at1 S5 1 rfl HTB
            have M5 := hide (MN.out wz S5)
            rw [← hq.out] at M5
            clear MN
            go_wp2_with fail
            refine M5.out.mono ?_
            rintro e w6 ⟨d, b2, rfl, hab, hbn2, hdb, HT6, S6⟩
            have S7 := pop2_set S6
            clear n0 n1 n2 n3 t0 M5 S6
            go_wp2_with fail
            go_ret
            exact ⟨d, b2, rfl, by omega, hbn2, by omega, hide (fun h => TKS.out b2 (HT6.out h)), S7⟩
          · have q2 : (qn : Int) - ((at0 : Int) + 1) < nd.kids := by omega
            go_wp2_with fail
            rw [← HW4.out, ← HR4.out]
            refine wp_region_noPanic ?_
            refine wp_region_held_drew (S := (fun w' => SZ5 W1 w' NB TB ts n cb nv at0 fv)) (by kernel_rfl) S4d (fun hHeld => ?_)
            refine wpAnyH_take (i := 0) (oi := ?oi55) (v := ?v55) ?hi55 (by kernel_rfl) (by kernel_rfl) (by kernel_rfl) ?hQ55 ?hy55 hHeld ?rest55
            case hi55 => simp only [List.getElem?_toArray, List.getElem?_cons_zero]; rfl
            case hQ55 => exact fun _ _ _ h => h
            case hy55 =>
              refine Or.inl ⟨by rfl, ?_⟩
              intro w' hSw
              go_simp
              try with_reducible rfl
            try simp only [Act.put, List.setIfInBounds_toArray, List.set_cons_zero, List.set_cons_succ]
            refine wpAnyH_take (i := 1) (oi := ?oi56) (v := ?v56) ?hi56 (by kernel_rfl) (by kernel_rfl) (by kernel_rfl) ?hQ56 ?hy56 hHeld ?rest56
            case hi56 => simp only [List.getElem?_toArray, List.getElem?_cons_succ, List.getElem?_cons_zero]; rfl
            case hQ56 => exact fun _ _ _ h => h
            case hy56 =>
              refine Or.inl ⟨by rfl, ?_⟩
              intro w' hSw
              go_simp
              try with_reducible rfl
            try simp only [Act.put, List.setIfInBounds_toArray, List.set_cons_zero, List.set_cons_succ]
            refine wpAnyH_take (i := 2) (oi := ?oi57) (v := ?v57) ?hi57 (by kernel_rfl) (by kernel_rfl) (by kernel_rfl) ?hQ57 ?hy57 hHeld ?rest57
            case hi57 => simp only [List.getElem?_toArray, List.getElem?_cons_succ, List.getElem?_cons_zero]; rfl
            case hQ57 => exact fun _ _ _ h => h
            case hy57 =>
              refine Or.inl ⟨by rfl, ?_⟩
              intro w' hSw
              go_simp
              try with_reducible rfl
            try simp only [Act.put, List.setIfInBounds_toArray, List.set_cons_zero, List.set_cons_succ]
            refine wpAnyH_take (i := 3) (oi := ?oi58) (v := ?v58) ?hi58 (by kernel_rfl) (by kernel_rfl) (by kernel_rfl) ?hQ58 ?hy58 hHeld ?rest58
            case hi58 => simp only [List.getElem?_toArray, List.getElem?_cons_succ, List.getElem?_cons_zero]; rfl
            case hQ58 => exact fun _ _ _ h => h
            case hy58 =>
              refine Or.inl ⟨by rfl, ?_⟩
              intro w' hSw
              obtain ⟨a0, a1, a2, a3⟩ := at4 hSw 0 rfl HNB
              go_simp
              try with_reducible rfl
            try simp only [Act.put, List.setIfInBounds_toArray, List.set_cons_zero, List.set_cons_succ]
            refine wpAnyH_ready (rs := [4]) (by kernel_rfl) (by simp) ?_
            refine AllReadyH.cons (o := ?oi59) ?hi59 ?st59 AllReadyH.nil
            case hi59 => simp only [List.getElem?_toArray, List.getElem?_cons_succ, List.getElem?_cons_zero]; rfl
            intro K hK
            go_simp
            go_at_call 56
            refine (CB.out _ (by assumption)).mono ?_
            rintro e wz ⟨rfl, SZ⟩
            try go_wp2_with fail
            refine hK.out _ _ SZ.out (fun hNew => ?_)
            clear hK K SZ hHeld
            have hHeld := hNew
            clear hNew
            try simp only [Act.put, List.setIfInBounds_toArray, List.set_cons_zero, List.set_cons_succ]
            refine wpAnyH_take (i := 5) (oi := ?oi60) (v := ?v60) ?hi60 (by kernel_rfl) (by kernel_rfl) (by kernel_rfl) ?hQ60 ?hy60 hHeld ?rest60
            case hi60 => simp only [List.getElem?_toArray, List.getElem?_cons_succ, List.getElem?_cons_zero]; rfl
            case hQ60 => exact fun _ _ _ h => h
            case hy60 =>
              refine Or.inl ⟨by rfl, ?_⟩
              intro w' hSw
              go_simp
              try with_reducible rfl
            try simp only [Act.put, List.setIfInBounds_toArray, List.set_cons_zero, List.set_cons_succ]
            refine wpAnyH_take (i := 6) (oi := ?oi61) (v := ?v61) ?hi61 (by kernel_rfl) (by kernel_rfl) (by kernel_rfl) ?hQ61 ?hy61 hHeld ?rest61
            case hi61 => simp only [List.getElem?_toArray, List.getElem?_cons_succ, List.getElem?_cons_zero]; rfl
            case hQ61 => exact fun _ _ _ h => h
            case hy61 =>
              refine Or.inl ⟨by rfl, ?_⟩
              intro w' hSw
              go_simp
              try with_reducible rfl
            try simp only [Act.put, List.setIfInBounds_toArray, List.set_cons_zero, List.set_cons_succ]
            refine wpAnyH_take (i := 7) (oi := ?oi62) (v := ?v62) ?hi62 (by kernel_rfl) (by kernel_rfl) (by kernel_rfl) ?hQ62 ?hy62 hHeld ?rest62
            case hi62 => simp only [List.getElem?_toArray, List.getElem?_cons_succ, List.getElem?_cons_zero]; rfl
            case hQ62 => exact fun _ _ _ h => h
            case hy62 =>
              refine Or.inl ⟨by rfl, ?_⟩
              intro w' hSw
              go_simp
              try with_reducible rfl
            try simp only [Act.put, List.setIfInBounds_toArray, List.set_cons_zero, List.set_cons_succ]
            refine wpAnyH_take (i := 8) (oi := ?oi63) (v := ?v63) ?hi63 (by kernel_rfl) (by kernel_rfl) (by kernel_rfl) ?hQ63 ?hy63 hHeld ?rest63
            case hi63 => simp only [List.getElem?_toArray, List.getElem?_cons_succ, List.getElem?_cons_zero]; rfl
            case hQ63 => exact fun _ _ _ h => h
            case hy63 =>
              refine Or.inl ⟨by rfl, ?_⟩
              intro w' hSw
              go_simp
              try with_reducible rfl
            try simp only [Act.put, List.setIfInBounds_toArray, List.set_cons_zero, List.set_cons_succ]
            refine wpAnyH_take (i := 9) (oi := ?oi64) (v := ?v64) ?hi64 (by kernel_rfl) (by kernel_rfl) (by kernel_rfl) ?hQ64 ?hy64 hHeld ?rest64
            case hi64 => simp only [List.getElem?_toArray, List.getElem?_cons_succ, List.getElem?_cons_zero]; rfl
            case hQ64 => exact fun _ _ _ h => h
            case hy64 =>
              refine Or.inl ⟨by rfl, ?_⟩
              intro w' hSw
              obtain ⟨a0, a1, a2, a3⟩ := at4 hSw 0 rfl HNB
              go_simp
              try with_reducible rfl
            try simp only [Act.put, List.setIfInBounds_toArray, List.set_cons_zero, List.set_cons_succ]
            refine wpAnyH_take (i := 10) (oi := ?oi65) (v := ?v65) ?hi65 (by kernel_rfl) (by kernel_rfl) (by kernel_rfl) ?hQ65 ?hy65 hHeld ?rest65
            case hi65 => simp only [List.getElem?_toArray, List.getElem?_cons_succ, List.getElem?_cons_zero]; rfl
            case hQ65 => exact fun _ _ _ h => h
            case hy65 =>
              refine Or.inl ⟨by rfl, ?_⟩
              intro w' hSw
              go_simp
              try with_reducible rfl
            try simp only [Act.put, List.setIfInBounds_toArray, List.set_cons_zero, List.set_cons_succ]
            refine wpAnyH_take (i := 11) (oi := ?oi66) (v := ?v66) ?hi66 (by kernel_rfl) (by kernel_rfl) (by kernel_rfl) ?hQ66 ?hy66 hHeld ?rest66
            case hi66 => simp only [List.getElem?_toArray, List.getElem?_cons_succ, List.getElem?_cons_zero]; rfl
            case hQ66 => exact fun _ _ _ h => h
            case hy66 =>
              refine Or.inl ⟨by rfl, ?_⟩
              intro w' hSw
              go_simp
              try with_reducible rfl
            try simp only [Act.put, List.setIfInBounds_toArray, List.set_cons_zero, List.set_cons_succ]
            refine wpAnyH_take (i := 12) (oi := ?oi67) (v := ?v67) ?hi67 (by kernel_rfl) (by kernel_rfl) (by kernel_rfl) ?hQ67 ?hy67 hHeld ?rest67
            case hi67 => simp only [List.getElem?_toArray, List.getElem?_cons_succ, List.getElem?_cons_zero]; rfl
            case hQ67 => exact fun _ _ _ h => h
            case hy67 =>
              refine Or.inl ⟨by rfl, ?_⟩
              intro w' hSw
              go_simp
              try with_reducible rfl
            try simp only [Act.put, List.setIfInBounds_toArray, List.set_cons_zero, List.set_cons_succ]
            refine wpAnyH_take (i := 13) (oi := ?oi68) (v := ?v68) ?hi68 (by kernel_rfl) (by kernel_rfl) (by kernel_rfl) ?hQ68 ?hy68 hHeld ?rest68
            case hi68 => simp only [List.getElem?_toArray, List.getElem?_cons_succ, List.getElem?_cons_zero]; rfl
            case hQ68 => exact fun _ _ _ h => h
            case hy68 =>
              refine Or.inl ⟨by rfl, ?_⟩
              intro w' hSw
              go_simp
              try with_reducible rfl
            try simp only [Act.put, List.setIfInBounds_toArray, List.set_cons_zero, List.set_cons_succ]
            refine wpAnyH_take (i := 14) (oi := ?oi69) (v := ?v69) ?hi69 (by kernel_rfl) (by kernel_rfl) (by kernel_rfl) ?hQ69 ?hy69 hHeld ?rest69
            case hi69 => simp only [List.getElem?_toArray, List.getElem?_cons_succ, List.getElem?_cons_zero]; rfl
            case hQ69 => exact fun _ _ _ h => h
            case hy69 =>
              refine Or.inl ⟨by rfl, ?_⟩
              intro w' hSw
              obtain ⟨a0, a1, a2, a3⟩ := at4 hSw 0 rfl HNB
              go_simp
              try with_reducible rfl
            try simp only [Act.put, List.setIfInBounds_toArray, List.set_cons_zero, List.set_cons_succ]
            refine wpAnyH_take (i := 15) (oi := ?oi70) (v := ?v70) ?hi70 (by kernel_rfl) (by kernel_rfl) (by kernel_rfl) ?hQ70 ?hy70 hHeld ?rest70
            case hi70 => simp only [List.getElem?_toArray, List.getElem?_cons_succ, List.getElem?_cons_zero]; rfl
            case hQ70 => exact fun _ _ _ h => h
            case hy70 =>
              refine Or.inl ⟨by rfl, ?_⟩
              intro w' hSw
              go_simp
              try with_reducible rfl
            try simp only [Act.put, List.setIfInBounds_toArray, List.set_cons_zero, List.set_cons_succ]
            refine wpAnyH_take (i := 16) (oi := ?oi71) (v := ?v71) ?hi71 (by kernel_rfl) (by kernel_rfl) (by kernel_rfl) ?hQ71 ?hy71 hHeld ?rest71
            case hi71 => simp only [List.getElem?_toArray, List.getElem?_cons_succ, List.getElem?_cons_zero]; rfl
            case hQ71 => exact fun _ _ _ h => h
            case hy71 =>
              refine Or.inl ⟨by rfl, ?_⟩
              intro w' hSw
              go_simp
              try with_reducible rfl
            try simp only [Act.put, List.setIfInBounds_toArray, List.set_cons_zero, List.set_cons_succ]
            refine wpAnyH_take (i := 17) (oi := ?oi72) (v := ?v72) ?hi72 (by kernel_rfl) (by kernel_rfl) (by kernel_rfl) ?hQ72 ?hy72 hHeld ?rest72
            case hi72 => simp only [List.getElem?_toArray, List.getElem?_cons_succ, List.getElem?_cons_zero]; rfl
            case hQ72 => exact fun _ _ _ h => h
            case hy72 =>
              refine Or.inl ⟨by rfl, ?_⟩
              intro w' hSw
              go_simp
              try with_reducible rfl
            try simp only [Act.put, List.setIfInBounds_toArray, List.set_cons_zero, List.set_cons_succ]
            refine wpAnyH_take (i := 18) (oi := ?oi73) (v := ?v73) ?hi73 (by kernel_rfl) (by kernel_rfl) (by kernel_rfl) ?hQ73 ?hy73 hHeld ?rest73
            case hi73 => simp only [List.getElem?_toArray, List.getElem?_cons_succ, List.getElem?_cons_zero]; rfl
            case hQ73 => exact fun _ _ _ h => h
            case hy73 =>
              refine Or.inl ⟨by rfl, ?_⟩
              intro w' hSw
              obtain ⟨a0, a1⟩ := HCUR.out w' hSw
              go_simp
              try with_reducible rfl
            try simp only [Act.put, List.setIfInBounds_toArray, List.set_cons_zero, List.set_cons_succ]
            refine wpAnyH_take (i := 19) (oi := ?oi74) (v := ?v74) ?hi74 (by kernel_rfl) (by kernel_rfl) (by kernel_rfl) ?hQ74 ?hy74 hHeld ?rest74
            case hi74 => simp only [List.getElem?_toArray, List.getElem?_cons_succ, List.getElem?_cons_zero]; rfl
            case hQ74 => exact fun _ _ _ h => h
            case hy74 =>
              refine Or.inl ⟨by rfl, ?_⟩
              intro w' hSw
              go_simp
              try with_reducible rfl
            try simp only [Act.put, List.setIfInBounds_toArray, List.set_cons_zero, List.set_cons_succ]
            refine wpAnyH_take (i := 20) (oi := ?oi75) (v := ?v75) ?hi75 (by kernel_rfl) (by kernel_rfl) (by kernel_rfl) ?hQ75 ?hy75 hHeld ?rest75
            case hi75 => simp only [List.getElem?_toArray, List.getElem?_cons_succ, List.getElem?_cons_zero]; rfl
            case hQ75 => exact fun _ _ _ h => h
            case hy75 =>
              refine Or.inl ⟨by rfl, ?_⟩
              intro w' hSw
              go_simp
              try with_reducible rfl
            try simp only [Act.put, List.setIfInBounds_toArray, List.set_cons_zero, List.set_cons_succ]
            refine wpAnyH_take (i := 21) (oi := ?oi76) (v := ?v76) ?hi76 (by kernel_rfl) (by kernel_rfl) (by kernel_rfl) ?hQ76 ?hy76 hHeld ?rest76
            case hi76 => simp only [List.getElem?_toArray, List.getElem?_cons_succ, List.getElem?_cons_zero]; rfl
            case hQ76 => exact fun _ _ _ h => h
            case hy76 =>
              refine Or.inl ⟨by rfl, ?_⟩
              intro w' hSw
              go_simp
              try with_reducible rfl
            try simp only [Act.put, List.setIfInBounds_toArray, List.set_cons_zero, List.set_cons_succ]
            refine wpAnyH_take (i := 22) (oi := ?oi77) (v := ?v77) ?hi77 (by kernel_rfl) (by kernel_rfl) (by kernel_rfl) ?hQ77 ?hy77 hHeld ?rest77
            case hi77 => simp only [List.getElem?_toArray, List.getElem?_cons_succ, List.getElem?_cons_zero]; rfl
            case hQ77 => exact fun _ _ _ h => h
            case hy77 =>
              refine Or.inl ⟨by rfl, ?_⟩
              intro w' hSw
              go_simp
              try with_reducible rfl
            try simp only [Act.put, List.setIfInBounds_toArray, List.set_cons_zero, List.set_cons_succ]
            refine wpAnyH_take (i := 23) (oi := ?oi78) (v := ?v78) ?hi78 (by kernel_rfl) (by kernel_rfl) (by kernel_rfl) ?hQ78 ?hy78 hHeld ?rest78
            case hi78 => simp only [List.getElem?_toArray, List.getElem?_cons_succ, List.getElem?_cons_zero]; rfl
            case hQ78 => exact fun _ _ _ h => h
            case hy78 =>
              refine Or.inl ⟨by rfl, ?_⟩
              intro w' hSw
              obtain ⟨a0, a1⟩ := HCUR.out w' hSw
              go_simp
              try with_reducible rfl
            try simp only [Act.put, List.setIfInBounds_toArray, List.set_cons_zero, List.set_cons_succ]
            refine wpAnyH_take (i := 24) (oi := ?oi79) (v := ?v79) ?hi79 (by kernel_rfl) (by kernel_rfl) (by kernel_rfl) ?hQ79 ?hy79 hHeld ?rest79
            case hi79 => simp only [List.getElem?_toArray, List.getElem?_cons_succ, List.getElem?_cons_zero]; rfl
            case hQ79 => exact fun _ _ _ h => h
            case hy79 =>
              refine Or.inl ⟨by rfl, ?_⟩
              intro w' hSw
              go_simp
              try with_reducible rfl
            try simp only [Act.put, List.setIfInBounds_toArray, List.set_cons_zero, List.set_cons_succ]
            refine wpAnyH_take (i := 25) (oi := ?oi80) (v := ?v80) ?hi80 (by kernel_rfl) (by kernel_rfl) (by kernel_rfl) ?hQ80 ?hy80 hHeld ?rest80
            case hi80 => simp only [List.getElem?_toArray, List.getElem?_cons_succ, List.getElem?_cons_zero]; rfl
            case hQ80 => exact fun _ _ _ h => h
            case hy80 =>
              refine Or.inl ⟨by rfl, ?_⟩
              intro w' hSw
              go_simp
              try with_reducible rfl
            try simp only [Act.put, List.setIfInBounds_toArray, List.set_cons_zero, List.set_cons_succ]
            refine wpAnyH_take (i := 26) (oi := ?oi81) (v := ?v81) ?hi81 (by kernel_rfl) (by kernel_rfl) (by kernel_rfl) ?hQ81 ?hy81 hHeld ?rest81
            case hi81 => simp only [List.getElem?_toArray, List.getElem?_cons_succ, List.getElem?_cons_zero]; rfl
            case hQ81 => exact fun _ _ _ h => h
            case hy81 =>
              refine Or.inl ⟨by rfl, ?_⟩
              intro w' hSw
              go_simp
              try with_reducible rfl
            try simp only [Act.put, List.setIfInBounds_toArray, List.set_cons_zero, List.set_cons_succ]
            refine wpAnyH_done (by kernel_rfl) ?_ _
            refine NoPanic.normal ?_
            have S5 : Hid (Lie W1.heap.size W1 wz (NB :: TB :: ts.set n (cur cb nv (at0 + 1) fv))) := hHeld
            clear n0 n1 n2 n3 t0 CB hwr
            go_wp2_with fail
            go_ret
            exact of_zero (by omega) (by omega) (hide S5.out.pop.pop)
        · have q2 : nd.kids < 0 := by omega
          have q0d : decide (nd.kids < 0) = true := decide_eq_true q2
          go_wp2_with fail
          rw [← HW4.out, ← HR4.out]
          refine wp_region_noPanic ?_
          refine wp_region_held_drew (S := (fun w' => SZ5 W1 w' NB TB ts n cb nv at0 fv)) (by kernel_rfl) S4d (fun hHeld => ?_)
          refine wpAnyH_take (i := 0) (oi := ?oi82) (v := ?v82) ?hi82 (by kernel_rfl) (by kernel_rfl) (by kernel_rfl) ?hQ82 ?hy82 hHeld ?rest82
          case hi82 => simp only [List.getElem?_toArray, List.getElem?_cons_zero]; rfl
          case hQ82 => exact fun _ _ _ h => h
          case hy82 =>
            refine Or.inl ⟨by rfl, ?_⟩
            intro w' hSw
            go_simp
            try with_reducible rfl
          try simp only [Act.put, List.setIfInBounds_toArray, List.set_cons_zero, List.set_cons_succ]
          refine wpAnyH_take (i := 1) (oi := ?oi83) (v := ?v83) ?hi83 (by kernel_rfl) (by kernel_rfl) (by kernel_rfl) ?hQ83 ?hy83 hHeld ?rest83
          case hi83 => simp only [List.getElem?_toArray, List.getElem?_cons_succ, List.getElem?_cons_zero]; rfl
          case hQ83 => exact fun _ _ _ h => h
          case hy83 =>
            refine Or.inl ⟨by rfl, ?_⟩
            intro w' hSw
            go_simp
            try with_reducible rfl
          try simp only [Act.put, List.setIfInBounds_toArray, List.set_cons_zero, List.set_cons_succ]
          refine wpAnyH_take (i := 2) (oi := ?oi84) (v := ?v84) ?hi84 (by kernel_rfl) (by kernel_rfl) (by kernel_rfl) ?hQ84 ?hy84 hHeld ?rest84
          case hi84 => simp only [List.getElem?_toArray, List.getElem?_cons_succ, List.getElem?_cons_zero]; rfl
          case hQ84 => exact fun _ _ _ h => h
          case hy84 =>
            refine Or.inl ⟨by rfl, ?_⟩
            intro w' hSw
            go_simp
            try with_reducible rfl
          try simp only [Act.put, List.setIfInBounds_toArray, List.set_cons_zero, List.set_cons_succ]
          refine wpAnyH_take (i := 3) (oi := ?oi85) (v := ?v85) ?hi85 (by kernel_rfl) (by kernel_rfl) (by kernel_rfl) ?hQ85 ?hy85 hHeld ?rest85
          case hi85 => simp only [List.getElem?_toArray, List.getElem?_cons_succ, List.getElem?_cons_zero]; rfl
          case hQ85 => exact fun _ _ _ h => h
          case hy85 =>
            refine Or.inl ⟨by rfl, ?_⟩
            intro w' hSw
            obtain ⟨a0, a1, a2, a3⟩ := at4 hSw 0 rfl HNB
            go_simp
            try with_reducible rfl
          try simp only [Act.put, List.setIfInBounds_toArray, List.set_cons_zero, List.set_cons_succ]
          refine wpAnyH_ready (rs := [4]) (by kernel_rfl) (by simp) ?_
          refine AllReadyH.cons (o := ?oi86) ?hi86 ?st86 AllReadyH.nil
          case hi86 => simp only [List.getElem?_toArray, List.getElem?_cons_succ, List.getElem?_cons_zero]; rfl
          intro K hK
          go_simp
          go_at_call 56
          refine (CB.out _ (by assumption)).mono ?_
          rintro e wz ⟨rfl, SZ⟩
          try go_wp2_with fail
          refine hK.out _ _ SZ.out (fun hNew => ?_)
          clear hK K SZ hHeld
          have hHeld := hNew
          clear hNew
          try simp only [Act.put, List.setIfInBounds_toArray, List.set_cons_zero, List.set_cons_succ]
          refine wpAnyH_take (i := 5) (oi := ?oi87) (v := ?v87) ?hi87 (by kernel_rfl) (by kernel_rfl) (by kernel_rfl) ?hQ87 ?hy87 hHeld ?rest87
          case hi87 => simp only [List.getElem?_toArray, List.getElem?_cons_succ, List.getElem?_cons_zero]; rfl
          case hQ87 => exact fun _ _ _ h => h
          case hy87 =>
            refine Or.inl ⟨by rfl, ?_⟩
            intro w' hSw
            go_simp
            try with_reducible rfl
          try simp only [Act.put, List.setIfInBounds_toArray, List.set_cons_zero, List.set_cons_succ]
          refine wpAnyH_take (i := 6) (oi := ?oi88) (v := ?v88) ?hi88 (by kernel_rfl) (by kernel_rfl) (by kernel_rfl) ?hQ88 ?hy88 hHeld ?rest88
          case hi88 => simp only [List.getElem?_toArray, List.getElem?_cons_succ, List.getElem?_cons_zero]; rfl
          case hQ88 => exact fun _ _ _ h => h
          case hy88 =>
            refine Or.inl ⟨by rfl, ?_⟩
            intro w' hSw
            go_simp
            try with_reducible rfl
          try simp only [Act.put, List.setIfInBounds_toArray, List.set_cons_zero, List.set_cons_succ]
          refine wpAnyH_take (i := 7) (oi := ?oi89) (v := ?v89) ?hi89 (by kernel_rfl) (by kernel_rfl) (by kernel_rfl) ?hQ89 ?hy89 hHeld ?rest89
          case hi89 => simp only [List.getElem?_toArray, List.getElem?_cons_succ, List.getElem?_cons_zero]; rfl
          case hQ89 => exact fun _ _ _ h => h
          case hy89 =>
            refine Or.inl ⟨by rfl, ?_⟩
            intro w' hSw
            go_simp
            try with_reducible rfl
          try simp only [Act.put, List.setIfInBounds_toArray, List.set_cons_zero, List.set_cons_succ]
          refine wpAnyH_take (i := 8) (oi := ?oi90) (v := ?v90) ?hi90 (by kernel_rfl) (by kernel_rfl) (by kernel_rfl) ?hQ90 ?hy90 hHeld ?rest90
          case hi90 => simp only [List.getElem?_toArray, List.getElem?_cons_succ, List.getElem?_cons_zero]; rfl
          case hQ90 => exact fun _ _ _ h => h
          case hy90 =>
            refine Or.inl ⟨by rfl, ?_⟩
            intro w' hSw
            go_simp
            try with_reducible rfl
          try simp only [Act.put, List.setIfInBounds_toArray, List.set_cons_zero, List.set_cons_succ]
          refine wpAnyH_take (i := 9) (oi := ?oi91) (v := ?v91) ?hi91 (by kernel_rfl) (by kernel_rfl) (by kernel_rfl) ?hQ91 ?hy91 hHeld ?rest91
          case hi91 => simp only [List.getElem?_toArray, List.getElem?_cons_succ, List.getElem?_cons_zero]; rfl
          case hQ91 => exact fun _ _ _ h => h
          case hy91 =>
            refine Or.inl ⟨by rfl, ?_⟩
            intro w' hSw
            obtain ⟨a0, a1, a2, a3⟩ := at4 hSw 0 rfl HNB
            go_simp
            try with_reducible rfl
          try simp only [Act.put, List.setIfInBounds_toArray, List.set_cons_zero, List.set_cons_succ]
          refine wpAnyH_take (i := 10) (oi := ?oi92) (v := ?v92) ?hi92 (by kernel_rfl) (by kernel_rfl) (by kernel_rfl) ?hQ92 ?hy92 hHeld ?rest92
          case hi92 => simp only [List.getElem?_toArray, List.getElem?_cons_succ, List.getElem?_cons_zero]; rfl
          case hQ92 => exact fun _ _ _ h => h
          case hy92 =>
            refine Or.inl ⟨by rfl, ?_⟩
            intro w' hSw
            go_simp
            try with_reducible rfl
          try simp only [Act.put, List.setIfInBounds_toArray, List.set_cons_zero, List.set_cons_succ]
          refine wpAnyH_take (i := 11) (oi := ?oi93) (v := ?v93) ?hi93 (by kernel_rfl) (by kernel_rfl) (by kernel_rfl) ?hQ93 ?hy93 hHeld ?rest93
          case hi93 => simp only [List.getElem?_toArray, List.getElem?_cons_succ, List.getElem?_cons_zero]; rfl
          case hQ93 => exact fun _ _ _ h => h
          case hy93 =>
            refine Or.inl ⟨by rfl, ?_⟩
            intro w' hSw
            go_simp
            try with_reducible rfl
          try simp only [Act.put, List.setIfInBounds_toArray, List.set_cons_zero, List.set_cons_succ]
          refine wpAnyH_take (i := 12) (oi := ?oi94) (v := ?v94) ?hi94 (by kernel_rfl) (by kernel_rfl) (by kernel_rfl) ?hQ94 ?hy94 hHeld ?rest94
          case hi94 => simp only [List.getElem?_toArray, List.getElem?_cons_succ, List.getElem?_cons_zero]; rfl
          case hQ94 => exact fun _ _ _ h => h
          case hy94 =>
            refine Or.inl ⟨by rfl, ?_⟩
            intro w' hSw
            go_simp
            try with_reducible rfl
          try simp only [Act.put, List.setIfInBounds_toArray, List.set_cons_zero, List.set_cons_succ]
          refine wpAnyH_take (i := 13) (oi := ?oi95) (v := undef) ?hi95 (by kernel_rfl) (by kernel_rfl) (by kernel_rfl) ?hQ95 ?hy95 hHeld ?rest95
          case hi95 => simp only [List.getElem?_toArray, List.getElem?_cons_succ, List.getElem?_cons_zero]; rfl
          case hQ95 => exact fun _ _ _ h => h
          case hy95 => exact Or.inr ⟨by rfl, rfl⟩
          try simp only [Act.put, List.setIfInBounds_toArray, List.set_cons_zero, List.set_cons_succ]
          refine wpAnyH_take (i := 14) (oi := ?oi96) (v := undef) ?hi96 (by kernel_rfl) (by kernel_rfl) (by kernel_rfl) ?hQ96 ?hy96 hHeld ?rest96
          case hi96 => simp only [List.getElem?_toArray, List.getElem?_cons_succ, List.getElem?_cons_zero]; rfl
          case hQ96 => exact fun _ _ _ h => h
          case hy96 => exact Or.inr ⟨by rfl, rfl⟩
          try simp only [Act.put, List.setIfInBounds_toArray, List.set_cons_zero, List.set_cons_succ]
          refine wpAnyH_take (i := 15) (oi := ?oi97) (v := undef) ?hi97 (by kernel_rfl) (by kernel_rfl) (by kernel_rfl) ?hQ97 ?hy97 hHeld ?rest97
          case hi97 => simp only [List.getElem?_toArray, List.getElem?_cons_succ, List.getElem?_cons_zero]; rfl
          case hQ97 => exact fun _ _ _ h => h
          case hy97 => exact Or.inr ⟨by rfl, rfl⟩
          try simp only [Act.put, List.setIfInBounds_toArray, List.set_cons_zero, List.set_cons_succ]
          refine wpAnyH_take (i := 16) (oi := ?oi98) (v := undef) ?hi98 (by kernel_rfl) (by kernel_rfl) (by kernel_rfl) ?hQ98 ?hy98 hHeld ?rest98
          case hi98 => simp only [List.getElem?_toArray, List.getElem?_cons_succ, List.getElem?_cons_zero]; rfl
          case hQ98 => exact fun _ _ _ h => h
          case hy98 => exact Or.inr ⟨by rfl, rfl⟩
          try simp only [Act.put, List.setIfInBounds_toArray, List.set_cons_zero, List.set_cons_succ]
          refine wpAnyH_take (i := 17) (oi := ?oi99) (v := undef) ?hi99 (by kernel_rfl) (by kernel_rfl) (by kernel_rfl) ?hQ99 ?hy99 hHeld ?rest99
          case hi99 => simp only [List.getElem?_toArray, List.getElem?_cons_succ, List.getElem?_cons_zero]; rfl
          case hQ99 => exact fun _ _ _ h => h
          case hy99 => exact Or.inr ⟨by rfl, rfl⟩
          try simp only [Act.put, List.setIfInBounds_toArray, List.set_cons_zero, List.set_cons_succ]
          refine wpAnyH_take (i := 18) (oi := ?oi100) (v := undef) ?hi100 (by kernel_rfl) (by kernel_rfl) (by kernel_rfl) ?hQ100 ?hy100 hHeld ?rest100
          case hi100 => simp only [List.getElem?_toArray, List.getElem?_cons_succ, List.getElem?_cons_zero]; rfl
          case hQ100 => exact fun _ _ _ h => h
          case hy100 => exact Or.inr ⟨by rfl, rfl⟩
          try simp only [Act.put, List.setIfInBounds_toArray, List.set_cons_zero, List.set_cons_succ]
          refine wpAnyH_take (i := 19) (oi := ?oi101) (v := undef) ?hi101 (by kernel_rfl) (by kernel_rfl) (by kernel_rfl) ?hQ101 ?hy101 hHeld ?rest101
          case hi101 => simp only [List.getElem?_toArray, List.getElem?_cons_succ, List.getElem?_cons_zero]; rfl
          case hQ101 => exact fun _ _ _ h => h
          case hy101 => exact Or.inr ⟨by rfl, rfl⟩
          try simp only [Act.put, List.setIfInBounds_toArray, List.set_cons_zero, List.set_cons_succ]
          refine wpAnyH_take (i := 20) (oi := ?oi102) (v := undef) ?hi102 (by kernel_rfl) (by kernel_rfl) (by kernel_rfl) ?hQ102 ?hy102 hHeld ?rest102
          case hi102 => simp only [List.getElem?_toArray, List.getElem?_cons_succ, List.getElem?_cons_zero]; rfl
          case hQ102 => exact fun _ _ _ h => h
          case hy102 => exact Or.inr ⟨by rfl, rfl⟩
          try simp only [Act.put, List.setIfInBounds_toArray, List.set_cons_zero, List.set_cons_succ]
          refine wpAnyH_take (i := 21) (oi := ?oi103) (v := undef) ?hi103 (by kernel_rfl) (by kernel_rfl) (by kernel_rfl) ?hQ103 ?hy103 hHeld ?rest103
          case hi103 => simp only [List.getElem?_toArray, List.getElem?_cons_succ, List.getElem?_cons_zero]; rfl
          case hQ103 => exact fun _ _ _ h => h
          case hy103 => exact Or.inr ⟨by rfl, rfl⟩
          try simp only [Act.put, List.setIfInBounds_toArray, List.set_cons_zero, List.set_cons_succ]
          refine wpAnyH_take (i := 22) (oi := ?oi104) (v := undef) ?hi104 (by kernel_rfl) (by kernel_rfl) (by kernel_rfl) ?hQ104 ?hy104 hHeld ?rest104
          case hi104 => simp only [List.getElem?_toArray, List.getElem?_cons_succ, List.getElem?_cons_zero]; rfl
          case hQ104 => exact fun _ _ _ h => h
          case hy104 => exact Or.inr ⟨by rfl, rfl⟩
          try simp only [Act.put, List.setIfInBounds_toArray, List.set_cons_zero, List.set_cons_succ]
          refine wpAnyH_take (i := 23) (oi := ?oi105) (v := undef) ?hi105 (by kernel_rfl) (by kernel_rfl) (by kernel_rfl) ?hQ105 ?hy105 hHeld ?rest105
          case hi105 => simp only [List.getElem?_toArray, List.getElem?_cons_succ, List.getElem?_cons_zero]; rfl
          case hQ105 => exact fun _ _ _ h => h
          case hy105 => exact Or.inr ⟨by rfl, rfl⟩
          try simp only [Act.put, List.setIfInBounds_toArray, List.set_cons_zero, List.set_cons_succ]
          refine wpAnyH_take (i := 24) (oi := ?oi106) (v := undef) ?hi106 (by kernel_rfl) (by kernel_rfl) (by kernel_rfl) ?hQ106 ?hy106 hHeld ?rest106
          case hi106 => simp only [List.getElem?_toArray, List.getElem?_cons_succ, List.getElem?_cons_zero]; rfl
          case hQ106 => exact fun _ _ _ h => h
          case hy106 => exact Or.inr ⟨by rfl, rfl⟩
          try simp only [Act.put, List.setIfInBounds_toArray, List.set_cons_zero, List.set_cons_succ]
          refine wpAnyH_take (i := 25) (oi := ?oi107) (v := undef) ?hi107 (by kernel_rfl) (by kernel_rfl) (by kernel_rfl) ?hQ107 ?hy107 hHeld ?rest107
          case hi107 => simp only [List.getElem?_toArray, List.getElem?_cons_succ, List.getElem?_cons_zero]; rfl
          case hQ107 => exact fun _ _ _ h => h
          case hy107 => exact Or.inr ⟨by rfl, rfl⟩
          try simp only [Act.put, List.setIfInBounds_toArray, List.set_cons_zero, List.set_cons_succ]
          refine wpAnyH_take (i := 26) (oi := ?oi108) (v := ?v108) ?hi108 (by kernel_rfl) (by kernel_rfl) (by kernel_rfl) ?hQ108 ?hy108 hHeld ?rest108
          case hi108 => simp only [List.getElem?_toArray, List.getElem?_cons_succ, List.getElem?_cons_zero]; rfl
          case hQ108 => exact fun _ _ _ h => h
          case hy108 =>
            refine Or.inl ⟨by rfl, ?_⟩
            intro w' hSw
            go_simp
            try with_reducible rfl
          try simp only [Act.put, List.setIfInBounds_toArray, List.set_cons_zero, List.set_cons_succ]
          refine wpAnyH_done (by kernel_rfl) ?_ _
          refine NoPanic.normal ?_
          have S5 : Hid (Lie W1.heap.size W1 wz (NB :: TB :: ts.set n (cur cb nv (at0 + 1) fv))) := hHeld
          clear n0 n1 n2 n3 t0 CB
          go_wp2_with fail
          go_ret
          exact of_zero (by omega) (by omega) (hide S5.out.pop.pop)
  by_cases h6 : xk = 6
  · skip
    subst h6
    have C1 := hide (HC1.out 6)
    clear HC1
    go_enter Tryz.func30, Tryz.ntmps30
    go_wp2_with fail
    rw [← HW2.out, ← HR2.out]
    refine C1.out.mono ?_
    rintro e w3 ⟨nd, ok, rfl, hok, hno⟩
    clear C1 t0 k0 k1
    cases ok with
    | false =>
      have S3 := hno rfl
      clear hok hno
      go_wp2_with fail
      go_ret
      exact of_zero (Nat.le_refl _) hat (hide (by rw [set_self hn.out]; exact (S3.out.skip _).pop))
    | true =>
      obtain ⟨hx, hkk, S3⟩ := hok rfl
      have S3 : Hid (Lie W1.heap.size W1 w3 (TB :: ts.set n (cur cb nv (at0 + 1) fv))) := S3
      have hlt := (List.getElem?_eq_some_iff.1 hx).1
      have HX := hide hx
      have HKK := hide hkk
      clear hok hno hx hkk
      obtain ⟨w4, r5, NB, HW4, HR4, HNB, S4⟩ := lay S3 (.cells #[.int .u8 nd.kind, .int .i64 nd.num, .string nd.text, .int .i64 nd.kids] 46)
      obtain ⟨n0, n1, n2, n3⟩ := at4 S4 0 rfl HNB
      have t0 := at1 S4 1 rfl HTB
      rw [HW4.out] at n0 n1 n2 n3 t0
      rw [HR4.out] at n0 n1 n2 n3
      have CB := hide (bare_any nd false false true w4)
      generalize hbn : bareN nd false false true = bn at *
      have HBN := hide hbn
      clear hbn
      cases bn with
      | false =>
        go_wp2_with fail
        rw [← HW4.out, ← HR4.out]
        refine CB.out.mono ?_
        rintro e w5 ⟨rfl, T5⟩
        have S5 := hide (S4.out.stay T5)
        clear n0 n1 n2 n3 t0 CB T5
        obtain ⟨n0, n1, n2, n3⟩ := at4 S5 0 rfl HNB
        go_wp2_with fail
        go_ret
        exact of_zero (by omega) (by omega) (hide S5.out.pop.pop)
      | true =>
        by_cases q0 : 0 ≤ nd.kids
        · by_cases q1 : nd.kids ≤ 1
          · skip
            have HQ0 := hide q0
            obtain ⟨q, hq⟩ : ∃ q : Nat, Hid (nd.kids = (q : Int)) := ⟨nd.kids.toNat, hide (by omega)⟩
            obtain ⟨y, r', hyr⟩ := rest_cons hty.out (by rw [← HXK.out]; simp)
            have HYR := hide hyr
            have hqb : q ≤ 100000 := by have := hq.out; omega
            have MN := hide (fun (w' : World) (S : Hid (Lie W1.heap.size W1 w' (NB :: TB :: ts.set n (cur cb nv (at0 + 1) fv)))) =>
              many_any fr (cnt := q) (ns.length - (at0 + 1)) (hide (IH.out hlt)) hnn (List.replicate q r) 59 #[.pointer (some ⟨r3, 0, none⟩)] (hide (.inl ⟨_, rfl, by omega⟩)) w' _ (n + 2) cb (at0 + 1) (by simp) hqb
                (hide (fun xs hxs => by
                  rw [List.eq_of_mem_replicate hxs]
                  exact rest_ok hty.out (by rw [← HXK.out]; simp)))
                (hide (fun i w'' a' hi1 Lx => by
                  have hht := ht
                  rw [HYR.out] at hht
                  have hlen : l = (x :: y :: r').length := by rw [HLL.out, HYR.out]
                  have hTB := HTB
                  rw [hlen] at hht hTB
                  exact tail58 x y r' (some ⟨b, o, none⟩) c 1 (List.replicate q r) i (by rw [List.getElem?_replicate, if_pos hi1, HYR.out]) hht rfl hTB Lx 59 (by omega)))
                (by omega) (Nat.le_refl _) (hide (set_get hn.out _)) S)
            have TKS : Hid (∀ b2, Takes fr ns (List.replicate q r) (at0 + 1) b2 → Takes fr ns [x :: r] at0 b2) := hide (fun b2 htk => takes_opt HX.out HXK.out.symm HKK.out HBN.out HQ0.out (by have := hq.out; omega) (by rw [show nd.kids.toNat = q from by rw [hq.out]; rfl]; exact htk))
            clear hyr
            go_wp2_with fail
            rw [← HW4.out, ← HR4.out]
            refine CB.out.mono ?_
            rintro e w5 ⟨rfl, T5⟩
            have S5 := hide (S4.out.stay T5)
            clear n0 n1 n2 n3 t0 CB T5
            obtain ⟨n0, n1, n2, n3⟩ := at4 S5 0 rfl HNB
            have t0 := at1 S5 1 rfl HTB
            have M5 := hide (MN.out w5 S5)
            rw [← hq.out] at M5
            clear MN
            go_wp2_with fail
            refine M5.out.mono ?_
            rintro e w6 ⟨d, b2, rfl, hab, hbn2, hdb, HT6, S6⟩
            have S7 := pop2_set S6
            clear n0 n1 n2 n3 t0 M5 S6
            go_wp2_with fail
            go_ret
            exact ⟨d, b2, rfl, by omega, hbn2, by omega, hide (fun h => TKS.out b2 (HT6.out h)), S7⟩
          · have q2 : 1 < nd.kids := by omega
            go_wp2_with fail
            rw [← HW4.out, ← HR4.out]
            refine CB.out.mono ?_
            rintro e w5 ⟨rfl, T5⟩
            have S5 := hide (S4.out.stay T5)
            clear n0 n1 n2 n3 t0 CB T5
            obtain ⟨n0, n1, n2, n3⟩ := at4 S5 0 rfl HNB
            go_wp2_with fail
            go_ret
            exact of_zero (by omega) (by omega) (hide S5.out.pop.pop)
        · have q2 : nd.kids < 0 := by omega
          go_wp2_with fail
          rw [← HW4.out, ← HR4.out]
          refine CB.out.mono ?_
          rintro e w5 ⟨rfl, T5⟩
          have S5 := hide (S4.out.stay T5)
          clear n0 n1 n2 n3 t0 CB T5
          obtain ⟨n0, n1, n2, n3⟩ := at4 S5 0 rfl HNB
          go_wp2_with fail
          go_ret
          exact of_zero (by omega) (by omega) (hide S5.out.pop.pop)
  have hfv := HFV.out
  subst hfv
  have CN := hide (fun (w' : World) (S : Hid (Lie W1.heap.size W1 w' (TB :: ts))) => named_any fr hns hnn (fr x.name) w' (TB :: ts) (n + 1) cb at0 IH (hide (HE.out.fs x.name)) (hide (HE.out.ty x.name)) (HE.out.len x.name) hat hn S)
  have HCU := hide (fun (w' : World) (ts' : List Thing) (a : Nat) (S : Hid (Lie W1.heap.size W1 w' (TB :: ts'))) (h : ts'[n]? = some (cur cb nv a (.func (.func 53) #[] #[.pointer (some ⟨m3, 0, none⟩)]))) => (cell3 (S.out.get (n + 1) h)).2.2)
  have HKN : Hid (xk ≠ 1 ∧ xk ≠ 2 ∧ xk ≠ 3 ∧ xk ≠ 4 ∧ xk ≠ 5 ∧ xk ≠ 6) := hide ⟨h1, h2, h3, h4, h5, h6⟩
  clear HC1
  go_enter Tryz.func30, Tryz.ntmps30
  go_wp2_with fail
  rw [← HW2.out, ← HR2.out]
  rw [← HW2.out] at t0 k0 k1
  rw [← HR2.out] at t0
  have c2 := HCU.out w2 ts at0 S2 hn.out
  go_region_held3 (fun W' => W'.cell? ⟨r3, 0, none⟩ = some (.slice (some ⟨b, o, none⟩) l c) ∧ W'.cell? ⟨cb, 2, none⟩ = some (.func (.func 53) #[] #[.pointer (some ⟨m3, 0, none⟩)]) ∧ W'.cell? ⟨b, o + 1, none⟩ = some (.string x.name)) (go_keep) (first
    | (go_at_call 53; refine (HE.out.find x.name _ hxn (turn_of S2.out.drew)).mono ?_; rintro e w5 ⟨rfl, T5⟩; have S5 := hide (S2.out.drew.stay T5); have t0' := at1 S5 0 rfl HTB; have c2' := HCU.out w5 ts at0 S5 hn.out; obtain ⟨k0', k1'⟩ := SRT.out w5 (lie_turn S5))
    | (go_at_call 60; refine (CN.out _ S5).mono ?_; rintro e w6 ⟨d, b2, rfl, hab, hbn2, hdb, HT6, S6⟩; have S7 : Hid (Lie W1.heap.size W1 w6 (TB :: ts.set n (cur cb nv b2 (.func (.func 53) #[] #[.pointer (some ⟨m3, 0, none⟩)])))) := S6; have t0' := at1 S7 0 rfl HTB; have c2' := HCU.out w6 _ b2 S7 (set_get hn.out _); obtain ⟨k0', k1'⟩ := SRT.out w6 (lie_turn S7)))
  clear t0 k0 k1 c2 t0' c2' k0' k1'
  go_wp2_with fail
  go_ret
  exact ⟨d, b2, rfl, hab, hbn2, hdb, hide (fun h => HT6.out h x r rfl (by rw [← HXK.out]; exact HKN.out)), hide S7.out.pop⟩
end Go.Proofs.YtnljdcghaecdaaaGreatDoor
