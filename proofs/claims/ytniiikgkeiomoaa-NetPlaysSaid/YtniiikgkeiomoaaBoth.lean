/-
  both: an act by a net and by the document's.
-/
import Derived.Test.YtniiikgkeiomoaaDoc5
namespace Go.Proofs.Ytniiikgkeiomoaa
open Go.RowKit Go.Maps

theorem dsend_nil (p : Pk) (w : World) : Calls Try.prog 30 #[.pointer none, p.v] w (Same (.bool false) w) := by
  go_enter Try.func30, Try.ntmps30
  go_wp2
  go_ret
  exact ⟨rfl, (Turn.refl _ w).alloc _⟩
theorem dlose_nil (i : Int) (w : World) : Calls Try.prog 31 #[.pointer none, .int .i64 i] w (Same (.bool false) w) := by
  go_enter Try.func31, Try.ntmps31
  go_wp2
  go_ret
  exact ⟨rfl, Turn.refl _ w⟩
theorem ddup_nil (i : Int) (w : World) : Calls Try.prog 32 #[.pointer none, .int .i64 i] w (Same (.bool false) w) := by
  go_enter Try.func32, Try.ntmps32
  go_wp2
  go_ret
  exact ⟨rfl, Turn.refl _ w⟩
theorem dcut_nil (a b : Int) (on : Bool) (w : World) : Calls Try.prog 33 #[.pointer none, .int .i64 a, .int .i64 b, .bool on] w (Same (.tuple #[]) w) := by
  go_enter Try.func33, Try.ntmps33
  go_wp2
  first | refine bodyPost_ret (results_none rfl _ _ _) rfl ?_ | go_end0
  exact ⟨rfl, Turn.refl _ w⟩
theorem dwaiting_nil (w : World) : Calls Try.prog 22 #[.pointer none] w fun e w' => e = .returned (.int .i64 0) ∧ w = w' := by
  go_enter Try.func22, Try.ntmps22
  go_wp2
  go_ret
  exact ⟨rfl, rfl⟩
theorem dcome_nil (i : Int) (w : World) : Calls Try.prog 23 #[.pointer none, .int .i64 i] w (Same (told none) w) := by
  obtain ⟨W, hW⟩ : ∃ W, W = w.alloc (.cells #[.int .i64 0, .int .i64 0, .string ⟨#[]⟩] 25) := ⟨_, rfl⟩
  have tW : Turn (fun _ => False) w W := by rw [hW]; exact (Turn.refl _ w).alloc _
  have z : W.heap[w.heap.size]? = some (.cells #[.int .i64 0, .int .i64 0, .string ⟨#[]⟩] 25 (0, 0)) := by rw [hW]; exact heap_alloc_new w _
  obtain ⟨y0, y1, y2, z3, z4, z5⟩ := cell3 z
  have HW := hide hW
  rw [hW] at y0 y1 y2 z3 z4 z5
  clear hW
  go_enter Try.func23, Try.ntmps23
  go_wp2_with fail
  rw [← HW.out] at y0 y1 y2 ⊢
  exact bodyPost_ret (v := .tuple #[zeroPk, .bool false]) (by simp [results, Try.results23, go_sem, y0, y1, y2]) rfl ⟨rfl, tW⟩

/-- The document's ways are the net's. -/
def SameCuts (ws : List (Int × Int)) (C : Cuts) : Prop := ∀ a b, isCut ws a b = C.f (lo a b) (hi a b)
theorem SameCuts.of {ws : List (Int × Int)} {C : Cuts} (h : SameCuts ws C) (p : Pk) : isCut ws p.from_ p.to_ = cutOf C p := h _ _
theorem isCut_append (ws us : List (Int × Int)) (a b : Int) : isCut (ws ++ us) a b = (isCut ws a b || isCut us a b) := by unfold isCut; rw [List.any_append]
theorem isCut_others (ws : List (Int × Int)) (a b x y : Int) : isCut (others ws a b) x y = if (x = a ∧ y = b) ∨ (x = b ∧ y = a) then false else isCut ws x y := by
  unfold isCut others
  induction ws with
  | nil => simp
  | cons p ws ih =>
    obtain ⟨u, v⟩ := p
    rw [List.filter_cons]
    by_cases e : (x = a ∧ y = b) ∨ (x = b ∧ y = a)
    · rw [if_pos e] at ih ⊢
      cases h : onWay a b (u, v)
      · simp only [Bool.not_false, if_true, List.any_cons, ih, Bool.or_false]
        simp [onWay] at h
        rcases e with ⟨rfl, rfl⟩ | ⟨rfl, rfl⟩
        · simp only [Bool.or_eq_false_iff, Bool.and_eq_false_iff, beq_eq_false_iff_ne]
          constructor
          · by_cases hu : u = x
            · exact .inr (h.1 hu)
            · exact .inl hu
          · by_cases hu : u = y
            · exact .inr (h.2 hu)
            · exact .inl hu
        · simp only [Bool.or_eq_false_iff, Bool.and_eq_false_iff, beq_eq_false_iff_ne]
          constructor
          · by_cases hu : u = x
            · exact .inr (h.2 hu)
            · exact .inl hu
          · by_cases hu : u = y
            · exact .inr (h.1 hu)
            · exact .inl hu
      · simpa using ih
    · rw [if_neg e] at ih ⊢
      cases h : onWay a b (u, v)
      · simp only [Bool.not_false, if_true, List.any_cons, ih]
      · simp only [Bool.not_true, Bool.false_eq_true, if_false, List.any_cons, ih]
        have : ((u == x && v == y) || (u == y && v == x)) = false := by
          simp [onWay] at h
          simp only [Bool.or_eq_false_iff, Bool.and_eq_false_iff, beq_eq_false_iff_ne]
          constructor
          · by_cases hu : u = x
            · refine .inr (fun hv => e ?_)
              subst hu hv
              rcases h with ⟨h1, h2⟩ | ⟨h1, h2⟩
              · exact .inl ⟨h1, h2⟩
              · exact .inr ⟨h1, h2⟩
            · exact .inl hu
          · by_cases hu : u = y
            · refine .inr (fun hv => e ?_)
              subst hu hv
              rcases h with ⟨h1, h2⟩ | ⟨h1, h2⟩
              · exact .inr ⟨h2, h1⟩
              · exact .inl ⟨h2, h1⟩
            · exact .inl hu
        rw [this, Bool.false_or]
theorem SameCuts.cut {ws : List (Int × Int)} {C : Cuts} (h : SameCuts ws C) (a b : Int) (on : Bool) : SameCuts (dcutTo ws a b on) (C.set (lo a b) (hi a b) on) := by
  intro x y
  have hk := cutOf_set C a b on ⟨x, y, ⟨#[]⟩⟩
  unfold cutOf at hk
  rw [hk]
  simp only
  cases on with
  | false =>
    show isCut (others ws a b) x y = _
    rw [isCut_others, ← h x y]
  | true =>
    show isCut (others ws a b ++ [(a, b)]) x y = _
    rw [isCut_append, isCut_others, ← h x y]
    by_cases e : (x = a ∧ y = b) ∨ (x = b ∧ y = a)
    · rw [if_pos e, if_pos e]
      rcases e with ⟨rfl, rfl⟩ | ⟨rfl, rfl⟩ <;> simp [isCut]
    · rw [if_neg e, if_neg e]
      have : isCut [(a, b)] x y = false := by
        unfold isCut
        simp
        exact ⟨fun h1 h2 => e (.inl ⟨h1.symm, h2.symm⟩), fun h1 h2 => e (.inr ⟨h2.symm, h1.symm⟩)⟩
      rw [this]
      simp
theorem SameCuts.none : SameCuts [] Cuts.none := fun _ _ => rfl
theorem dcut_len (ws : List (Int × Int)) (a b : Int) (on : Bool) : (dcutTo ws a b on).length ≤ ws.length + 1 := by
  have := others_len ws a b
  cases on
  · show (others ws a b).length ≤ _; omega
  · show (others ws a b ++ [(a, b)]).length ≤ _; simp; omega

/-- A net and the document's, side by side, as far as n acts lead. -/
structure PlayS (base : Nat) (w0 : World) (dn nb n : Nat) (ps : List Pk) (ws : List (Int × Int)) (C : Cuts) (w : World) : Prop where
  same : SameCuts ws C
  len : ps.length ≤ n
  cuts : C.n ≤ n
  ways : ws.length ≤ n
  lie : ∃ v1 v2, Lie base w0 w (docT base dn v1 v2 ps ws [net base (some nb) ps C])
def PlaysOn (v : Value) (base : Nat) (w0 : World) (dn nb n : Nat) (e : Ending) (w : World) : Prop := e = .returned v ∧ ∃ ps ws C, PlayS base w0 dn nb n ps ws C w

set_option maxRecDepth 100000 in
set_option maxHeartbeats 4000000 in
theorem both_some {base dn nb n : Nat} {w0 w : World} {ps : List Pk} {ws : List (Int × Int)} {C : Cuts} (h : PlayS base w0 dn nb n ps ws C w) (hn : n ≤ 1000) (x : Ac) (hx : x.ok) (hxi : (Lit.int .i64 x.i).wf = true) :
    Calls Try.prog 21 #[.pointer (some ⟨nb, 0, none⟩), .pointer (some ⟨dn, 0, none⟩), .agg #[.int .i64 x.do_, .int .i64 x.p.from_, .int .i64 x.p.to_, .string x.p.data, .int .i64 x.i, .bool x.on]] w (PlaysOn (.bool true) base w0 dn nb (n + 1)) := by
  obtain ⟨same, hlen, hcuts, hways, v1, v2, s⟩ := h
  have s1 := doc_alloc s (.cells #[.int .i64 x.do_, .int .i64 x.p.from_, .int .i64 x.p.to_, .string x.p.data, .int .i64 x.i, .bool x.on] 40)
  have S1 : Hid (Lie base w0 (w.alloc (.cells #[.int .i64 x.do_, .int .i64 x.p.from_, .int .i64 x.p.to_, .string x.p.data, .int .i64 x.i, .bool x.on] 40)) (docT base dn v1 v2 ps ws [abox w.heap.size x, net base (some nb) ps C])) := hide s1
  have SAME := hide same
  have HXI := hide hxi
  have HX := hide hx
  clear s s1 same hxi hx
  by_cases h0 : x.do_ = 0
  · have d0 : (x.do_ == 0) = true := by simpa using h0
    clear h0
    go_enter Try.func21, Try.ntmps21
    go_wp2_with fail
    refine (send_any S1.out 4 (some nb) ps C rfl x.p HX.out.1).mono ?_
    rintro e w2 ⟨rfl, s2⟩
    simp only [List.set] at s2
    by_cases hok : x.p.data.size ≤ 8192 ∧ ps.length < 1024
    · have ek := send_okk nb ps x.p hok.1 hok.2
      have et : sendTo (some nb) ps C x.p = dsendTo ws ps x.p := by
        unfold sendTo dsendTo
        rw [SAME.out.of]
        by_cases hc : cutOf C x.p = true
        · rw [if_pos hc, if_neg (by rw [hc]; simp)]
        · rw [if_neg hc, if_pos ⟨ek, by simpa using hc⟩]
      have hl : (dsendTo ws ps x.p).length ≤ n + 1 := by
        unfold dsendTo
        split
        · omega
        · simp; omega
      rw [ek]
      rw [et] at s2
      have S2 := hide s2
      have HL := hide hl
      obtain ⟨c0, c1, c2, c3, c4, c5⟩ := cell6 (s2.get 3 rfl)
      clear s2 ek et hl
      go_wp2_with fail
      refine (dsend_ok S2.out x.p hok.1 hok.2 (by omega)).mono ?_
      rintro e w3 ⟨rfl, v1', v2', s3⟩
      have S3 := hide s3
      clear s3
      go_wp2_with fail
      go_ret
      exact ⟨rfl, _, _, _, SAME.out, HL.out, by omega, by omega, _, _, S3.out.erase 3⟩
    · have ek : sendOk (some nb) ps x.p = false := by unfold sendOk; simp only [Option.isSome_some, Bool.true_and, decide_eq_false_iff_not]; exact hok
      have et : sendTo (some nb) ps C x.p = ps := by unfold sendTo; rw [ek]; rfl
      rw [ek]
      rw [et] at s2
      have S2 := hide s2
      obtain ⟨c0, c1, c2, c3, c4, c5⟩ := cell6 (s2.get 3 rfl)
      clear s2 ek et
      go_wp2_with fail
      refine (dsend_no S2.out x.p (by omega)).mono ?_
      rintro e w3 ⟨rfl, v1', v2', s3⟩
      have S3 := hide s3
      clear s3
      go_wp2_with fail
      go_ret
      exact ⟨rfl, _, _, _, SAME.out, by omega, by omega, by omega, _, _, S3.out.erase 3⟩
  · have d0 : (x.do_ == 0) = false := by simpa using h0
    clear h0
    by_cases h1 : x.do_ = 1
    · have d1 : (x.do_ == 1) = true := by simpa using h1
      clear h1
      go_enter Try.func21, Try.ntmps21
      go_wp2_with fail
      refine (come_any S1.out 4 (some nb) ps C rfl x.i (by omega)).mono ?_
      rintro e w2 ⟨rfl, s2⟩
      simp only [List.set] at s2
      by_cases hps : ps = []
      · subst hps
        rw [show comeOf C [] x.i = none from rfl, told_none]
        rw [show lostTo [] x.i = [] from rfl] at s2
        have s2' := doc_alloc s2 (.cells #[.int .i64 0, .int .i64 0, .string ⟨#[]⟩] 25)
        have S2 := hide s2'
        obtain ⟨c0, c1, c2, c3, c4, c5⟩ := cell6 (s2.get 3 rfl)
        obtain ⟨a0, a1, a2, a3, a4, a5⟩ := cell6 (s2'.get 4 rfl)
        have heq := fun w => run_eql_pk_self ⟨0, 0, ⟨#[]⟩⟩ w
        clear s2 s2'
        go_wp2_with fail
        refine (dcome_empty S2.out x.i).mono ?_
        rintro e w3 ⟨rfl, v1', v2', s3⟩
        rw [told_none]
        have s3' := doc_alloc s3 (.cells #[.int .i64 0, .int .i64 0, .string ⟨#[]⟩] 25)
        have S3 := hide s3'
        obtain ⟨f0, f1, f2, _⟩ := cell3 (s3'.get 4 rfl)
        clear s3 s3' c0 c1 c2 c3 c4 c5 a0 a1 a2 a3 a4 a5
        go_wp2_with fail
        go_ret
        exact ⟨rfl, _, _, _, SAME.out, by simp, by omega, by omega, _, _, ((S3.out.erase 3).erase 3).erase 3⟩
      · have hpos : 0 < ps.length := List.length_pos_iff.2 hps
        have hat := at_lt x.i ps.length hpos
        obtain ⟨m, hm4⟩ : ∃ m, m = at_ x.i ps.length := ⟨_, rfl⟩
        have hatm : m < ps.length := by rw [hm4]; exact hat
        have hcome : comeOf C ps x.i = dtold ws ps[m] := by
          unfold comeOf dtold
          simp only [← hm4]
          rw [List.getElem?_eq_getElem hatm]
          dsimp only
          rw [SAME.out.of]
        have hlost : lostTo ps x.i = ps.eraseIdx m := by unfold lostTo; rw [← hm4]
        have hel : (ps.eraseIdx m).length ≤ n + 1 := by rw [List.length_eraseIdx_of_lt hatm]; omega
        rw [hcome]
        rw [hlost] at s2
        have HEL := hide hel
        have HD := hide (fun (v1 v2 : Value) (ts : List Thing) (w : World) (h : Lie base w0 w (docT base dn v1 v2 ps ws ts)) => dcome h x.i hpos (by omega) (by omega) HXI.out m hm4 hatm)
        generalize ps[m] = P at *
        clear hps hat hm4 hcome hlost hel
        by_cases hc : isCut ws P.from_ P.to_ = true
        · have e1 : dtold ws P = none := by unfold dtold; rw [if_pos hc]
          rw [e1, told_none]
          rw [e1] at HD
          have s2' := doc_alloc s2 (.cells #[.int .i64 0, .int .i64 0, .string ⟨#[]⟩] 25)
          have S2 := hide s2'
          obtain ⟨c0, c1, c2, c3, c4, c5⟩ := cell6 (s2.get 3 rfl)
          obtain ⟨a0, a1, a2, a3, a4, a5⟩ := cell6 (s2'.get 4 rfl)
          have heq := fun w => run_eql_pk_self ⟨0, 0, ⟨#[]⟩⟩ w
          clear s2 s2' hc e1
          go_wp2_with fail
          refine (HD.out _ _ _ _ S2.out).mono ?_
          rintro e w3 ⟨rfl, v1', v2', s3⟩
          rw [told_none]
          have s3' := doc_alloc s3 (.cells #[.int .i64 0, .int .i64 0, .string ⟨#[]⟩] 25)
          have S3 := hide s3'
          obtain ⟨f0, f1, f2, _⟩ := cell3 (s3'.get 4 rfl)
          clear s3 s3' c0 c1 c2 c3 c4 c5 a0 a1 a2 a3 a4 a5
          go_wp2_with fail
          go_ret
          exact ⟨rfl, _, _, _, SAME.out, HEL.out, by omega, by omega, _, _, ((S3.out.erase 3).erase 3).erase 3⟩
        · have e1 : dtold ws P = some P := by unfold dtold; rw [if_neg hc]
          rw [e1, told_some]
          rw [e1] at HD
          have s2' := doc_alloc s2 (.cells #[.int .i64 P.from_, .int .i64 P.to_, .string P.data] 25)
          have S2 := hide s2'
          obtain ⟨c0, c1, c2, c3, c4, c5⟩ := cell6 (s2.get 3 rfl)
          obtain ⟨a0, a1, a2, a3, a4, a5⟩ := cell6 (s2'.get 4 rfl)
          have heq := fun w => run_eql_pk_self P w
          clear s2 s2' hc e1
          go_wp2_with fail
          refine (HD.out _ _ _ _ S2.out).mono ?_
          rintro e w3 ⟨rfl, v1', v2', s3⟩
          rw [told_some]
          have s3' := doc_alloc s3 (.cells #[.int .i64 P.from_, .int .i64 P.to_, .string P.data] 25)
          have S3 := hide s3'
          obtain ⟨f0, f1, f2, _⟩ := cell3 (s3'.get 4 rfl)
          clear s3 s3' c0 c1 c2 c3 c4 c5 a0 a1 a2 a3 a4 a5
          go_wp2_with fail
          go_ret
          exact ⟨rfl, _, _, _, SAME.out, HEL.out, by omega, by omega, _, _, ((S3.out.erase 3).erase 3).erase 3⟩
    · have d1 : (x.do_ == 1) = false := by simpa using h1
      clear h1
      by_cases h2 : x.do_ = 2
      · have d2 : (x.do_ == 2) = true := by simpa using h2
        clear h2
        go_enter Try.func21, Try.ntmps21
        go_wp2_with fail
        refine (lose_any S1.out 4 (some nb) ps C rfl x.i (by omega)).mono ?_
        rintro e w2 ⟨rfl, s2⟩
        simp only [List.set] at s2
        obtain ⟨c0, c1, c2, c3, c4, c5⟩ := cell6 (s2.get 3 rfl)
        have S2 := hide s2
        by_cases hps : ps = []
        · subst hps
          rw [show lostTo [] x.i = [] from rfl] at S2
          rw [show (!([] : List Pk).isEmpty) = false from rfl]
          clear s2
          go_wp2_with fail
          refine (dlose_empty S2.out x.i).mono ?_
          rintro e w3 ⟨rfl, v1', v2', s3⟩
          have S3 := hide s3
          clear s3
          go_wp2_with fail
          go_ret
          exact ⟨rfl, _, _, _, SAME.out, by simp, by omega, by omega, _, _, S3.out.erase 3⟩
        · have hpos : 0 < ps.length := List.length_pos_iff.2 hps
          have he : (!ps.isEmpty) = true := by simp [hps]
          have hel : (lostTo ps x.i).length ≤ n + 1 := by unfold lostTo; rw [List.length_eraseIdx_of_lt (at_lt _ _ hpos)]; omega
          have HEL := hide hel
          rw [he]
          clear s2 he hps hel
          go_wp2_with fail
          refine (dlose S2.out x.i hpos (by omega) HXI.out).mono ?_
          rintro e w3 ⟨rfl, v1', v2', s3⟩
          have S3 := hide s3
          clear s3
          go_wp2_with fail
          go_ret
          exact ⟨rfl, _, _, _, SAME.out, HEL.out, by omega, by omega, _, _, S3.out.erase 3⟩
      · have d2 : (x.do_ == 2) = false := by simpa using h2
        clear h2
        by_cases h3 : x.do_ = 3
        · have d3 : (x.do_ == 3) = true := by simpa using h3
          clear h3
          go_enter Try.func21, Try.ntmps21
          go_wp2_with fail
          refine (dup_any S1.out 4 (some nb) ps C rfl x.i (by omega)).mono ?_
          rintro e w2 ⟨rfl, s2⟩
          simp only [List.set] at s2
          obtain ⟨c0, c1, c2, c3, c4, c5⟩ := cell6 (s2.get 3 rfl)
          by_cases hok : dupOk ps = true
          · have hpos : 0 < ps.length ∧ ps.length < 1024 := by unfold dupOk at hok; rwa [decide_eq_true_eq] at hok
            have hat := at_lt x.i ps.length hpos.1
            have hto : dupTo ps x.i = ps ++ [ps[at_ x.i ps.length]] := by
              unfold dupTo
              rw [if_pos hok, List.getElem?_eq_getElem hat]
              rfl
            rw [hto] at s2
            rw [hok]
            have S2 := hide s2
            have HAT := hide hat
            clear s2 hok hto
            go_wp2_with fail
            refine (ddup S2.out x.i hpos.1 hpos.2 HXI.out _ rfl HAT.out).mono ?_
            rintro e w3 ⟨rfl, v1', v2', s3⟩
            have S3 := hide s3
            clear s3
            go_wp2_with fail
            go_ret
            exact ⟨rfl, _, _, _, SAME.out, by simp; omega, by omega, by omega, _, _, S3.out.erase 3⟩
          · have hof : dupOk ps = false := by simpa using hok
            have hto : dupTo ps x.i = ps := by unfold dupTo; rw [hof]; rfl
            rw [hto] at s2
            have HOF := hide hof
            rw [hof]
            have S2 := hide s2
            clear s2 hok hto hof
            go_wp2_with fail
            refine (ddup_no S2.out x.i HOF.out).mono ?_
            rintro e w3 ⟨rfl, v1', v2', s3⟩
            have S3 := hide s3
            clear s3
            go_wp2_with fail
            go_ret
            exact ⟨rfl, _, _, _, SAME.out, by omega, by omega, by omega, _, _, S3.out.erase 3⟩
        · have d3 : (x.do_ == 3) = false := by simpa using h3
          clear h3
          by_cases h4 : x.do_ = 4
          · have d4 : (x.do_ == 4) = true := by simpa using h4
            clear h4
            go_enter Try.func21, Try.ntmps21
            go_wp2_with fail
            refine (cut_any S1.out 4 (some nb) ps C rfl x.p.from_ x.p.to_ x.on (by unfold maxLen; omega) HX.out.1.1 HX.out.1.2).mono ?_
            rintro e w2 ⟨rfl, s2⟩
            simp only [List.set] at s2
            obtain ⟨c0, c1, c2, c3, c4, c5⟩ := cell6 (s2.get 3 rfl)
            have S2 := hide s2
            clear s2
            go_wp2_with fail
            refine (dcut S2.out x.p.from_ x.p.to_ x.on (by omega)).mono ?_
            rintro e w3 ⟨rfl, v1', v2', s3⟩
            have S3 := hide s3
            clear s3
            go_wp2_with fail
            go_ret
            exact ⟨rfl, _, _, _, SAME.out.cut _ _ _, by omega, by show C.n + 1 ≤ n + 1; omega, by have := dcut_len ws x.p.from_ x.p.to_ x.on; omega, _, _, S3.out.erase 3⟩
          · have d4 : (x.do_ == 4) = false := by simpa using h4
            clear h4
            go_enter Try.func21, Try.ntmps21
            go_wp2_with fail
            go_ret
            exact ⟨rfl, _, _, _, SAME.out, by omega, by omega, by omega, _, _, S1.out.erase 3⟩

set_option maxRecDepth 100000 in
set_option maxHeartbeats 2000000 in
theorem both_none (x : Ac) (w : World) :
    Calls Try.prog 21 #[.pointer none, .pointer none, .agg #[.int .i64 x.do_, .int .i64 x.p.from_, .int .i64 x.p.to_, .string x.p.data, .int .i64 x.i, .bool x.on]] w (Same (.bool true) w) := by
  have t0 : Turn (fun _ => False) w (w.alloc (.cells #[.int .i64 x.do_, .int .i64 x.p.from_, .int .i64 x.p.to_, .string x.p.data, .int .i64 x.i, .bool x.on] 40)) := (Turn.refl _ w).alloc _
  have a := cell6 (heap_alloc_new w (.cells #[.int .i64 x.do_, .int .i64 x.p.from_, .int .i64 x.p.to_, .string x.p.data, .int .i64 x.i, .bool x.on] 40))
  have hsz : w.heap.size < (w.alloc (.cells #[.int .i64 x.do_, .int .i64 x.p.from_, .int .i64 x.p.to_, .string x.p.data, .int .i64 x.i, .bool x.on] 40)).heap.size := by simp
  have T0 := hide t0
  have A := hide a
  have HSZ := hide hsz
  clear t0 a hsz
  by_cases h0 : x.do_ = 0
  · have d0 : (x.do_ == 0) = true := by simpa using h0
    clear h0
    go_enter Try.func21, Try.ntmps21
    go_wp2_with fail
    refine (send_nil x.p _).mono ?_
    rintro e w2 ⟨rfl, t2⟩
    have c1 := (t2.cell (p := ⟨w.heap.size, 1, none⟩) HSZ.out (fun h => h)).trans A.out.2.1
    have c2 := (t2.cell (p := ⟨w.heap.size, 2, none⟩) HSZ.out (fun h => h)).trans A.out.2.2.1
    have c3 := (t2.cell (p := ⟨w.heap.size, 3, none⟩) HSZ.out (fun h => h)).trans A.out.2.2.2.1
    go_wp2_with fail
    refine (dsend_nil x.p _).mono ?_
    rintro e w3 ⟨rfl, t3⟩
    go_wp2_with fail
    go_ret
    exact ⟨rfl, (T0.out.trans t2).trans t3⟩
  · have d0 : (x.do_ == 0) = false := by simpa using h0
    clear h0
    by_cases h1 : x.do_ = 1
    · have d1 : (x.do_ == 1) = true := by simpa using h1
      clear h1
      go_enter Try.func21, Try.ntmps21
      go_wp2_with fail
      refine (come_empty 0 none x.i _ (.inl rfl)).mono ?_
      rintro e w2 ⟨rfl, t2⟩
      have c4 := ((t2.alloc (.cells #[.int .i64 0, .int .i64 0, .string ⟨#[]⟩] 25)).cell (p := ⟨w.heap.size, 4, none⟩) HSZ.out (fun h => h)).trans A.out.2.2.2.2.1
      have z := heap_alloc_new w2 (.cells #[.int .i64 0, .int .i64 0, .string ⟨#[]⟩] 25)
      have Z := hide z
      have heq := fun w => run_eql_pk_self ⟨0, 0, ⟨#[]⟩⟩ w
      clear z
      go_wp2_with fail
      refine (dcome_nil x.i _).mono ?_
      rintro e w3 ⟨rfl, t3⟩
      rw [told_none]
      obtain ⟨f0, f1, f2, _⟩ := cell3 ((t3.alloc (.cells #[.int .i64 0, .int .i64 0, .string ⟨#[]⟩] 25)).obj Z.out (fun h => h))
      clear c4
      go_wp2_with fail
      go_ret
      exact ⟨rfl, (((T0.out.trans t2).alloc _).trans t3).alloc _⟩
    · have d1 : (x.do_ == 1) = false := by simpa using h1
      clear h1
      by_cases h2 : x.do_ = 2
      · have d2 : (x.do_ == 2) = true := by simpa using h2
        clear h2
        go_enter Try.func21, Try.ntmps21
        go_wp2_with fail
        refine (lose_empty 0 none x.i _ (.inl rfl)).mono ?_
        rintro e w2 ⟨rfl, t2⟩
        have c4 := (t2.cell (p := ⟨w.heap.size, 4, none⟩) HSZ.out (fun h => h)).trans A.out.2.2.2.2.1
        go_wp2_with fail
        refine (dlose_nil x.i _).mono ?_
        rintro e w3 ⟨rfl, t3⟩
        go_wp2_with fail
        go_ret
        exact ⟨rfl, (T0.out.trans t2).trans t3⟩
      · have d2 : (x.do_ == 2) = false := by simpa using h2
        clear h2
        by_cases h3 : x.do_ = 3
        · have d3 : (x.do_ == 3) = true := by simpa using h3
          clear h3
          go_enter Try.func21, Try.ntmps21
          go_wp2_with fail
          refine (dup_empty 0 none x.i _ (.inl rfl)).mono ?_
          rintro e w2 ⟨rfl, t2⟩
          have c4 := (t2.cell (p := ⟨w.heap.size, 4, none⟩) HSZ.out (fun h => h)).trans A.out.2.2.2.2.1
          go_wp2_with fail
          refine (ddup_nil x.i _).mono ?_
          rintro e w3 ⟨rfl, t3⟩
          go_wp2_with fail
          go_ret
          exact ⟨rfl, (T0.out.trans t2).trans t3⟩
        · have d3 : (x.do_ == 3) = false := by simpa using h3
          clear h3
          by_cases h4 : x.do_ = 4
          · have d4 : (x.do_ == 4) = true := by simpa using h4
            clear h4
            go_enter Try.func21, Try.ntmps21
            go_wp2_with fail
            refine (cut_nil x.p.from_ x.p.to_ x.on _).mono ?_
            rintro e w2 ⟨rfl, t2⟩
            have c1 := (t2.cell (p := ⟨w.heap.size, 1, none⟩) HSZ.out (fun h => h)).trans A.out.2.1
            have c2 := (t2.cell (p := ⟨w.heap.size, 2, none⟩) HSZ.out (fun h => h)).trans A.out.2.2.1
            have c5 := (t2.cell (p := ⟨w.heap.size, 5, none⟩) HSZ.out (fun h => h)).trans A.out.2.2.2.2.2
            go_wp2_with fail
            refine (dcut_nil x.p.from_ x.p.to_ x.on _).mono ?_
            rintro e w3 ⟨rfl, t3⟩
            go_wp2_with fail
            go_ret
            exact ⟨rfl, (T0.out.trans t2).trans t3⟩
          · have d4 : (x.do_ == 4) = false := by simpa using h4
            clear h4
            go_enter Try.func21, Try.ntmps21
            go_wp2_with fail
            go_ret
            exact ⟨rfl, T0.out⟩
end Go.Proofs.Ytniiikgkeiomoaa
