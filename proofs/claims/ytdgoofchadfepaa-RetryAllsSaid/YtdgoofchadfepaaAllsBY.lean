/-
  RetryAlls: one of its ways.
-/
import Derived.Test.YtdgoofchadfepaaAlls1
namespace Go.Proofs.Ytdgoofchadfepaa
open Go.RowKit Go.Shelf
attribute [local go_sem] Oper.semAt_some

set_option maxRecDepth 100000 in
set_option maxHeartbeats 8000000 in
theorem alls_BY (p : Po) (a : Int) (xs : List (Int × Int)) (hit : ∀ pb base, IterL Try.prog 18 #[.pointer (some ⟨pb, 0, none⟩)] att xs [box pb (pobj p)] base)
    (hX : ∀ pre x, pre ++ [x] <+: xs → (pre.length < 30 ∧ x.1 = (pre.length : Int) + 1 ∧ baseOf p ((pre.length : Int) + 1) = (x.2, 0)) ∧ 0 ≤ sumOf pre ∧ sumOf pre ≤ 32985348833280 ∧ 0 ≤ sumOf (pre ++ [x]) ∧ sumOf (pre ++ [x]) ≤ 32985348833280)
    (hr : Right p) (hlen : (xs.length : Int) = p.most) (h1 : 1 ≤ a) (h2 : a ≤ p.most) (htot : totalOf p = sumOf xs) (w : World) : Calls Try.prog 5 #[p.v, .int .i64 a] w fun e w' => e = .returned (.bool true) ∧ Below w.heap.size w w' := by
  have s4 := (((Lie.start w).alloc (.cells #[.int .i64 p.first, .int .i64 p.cap, .int .i64 p.num, .int .i64 p.den, .int .i64 p.spread, .int .i64 p.most] 23)).alloc (.cells #[.int .i64 a] 3)).alloc (.cells #[.bool false] 4)
  simp only [World.size_alloc] at s4
  obtain ⟨W, hW⟩ : ∃ W, W = ((w.alloc (.cells #[.int .i64 p.first, .int .i64 p.cap, .int .i64 p.num, .int .i64 p.den, .int .i64 p.spread, .int .i64 p.most] 23)).alloc (.cells #[.int .i64 a] 3)).alloc (.cells #[.bool false] 4) := ⟨_, rfl⟩
  rw [← hW] at s4
  have S4 := hide s4
  have HIT := hide hit
  have HX := hide hX
  have HW := hide hW
  have HR := hide hr
  have HTOT := hide htot
  have HLEN := hide hlen
  clear s4 hW hit hX hr htot
  refine callsIn_wide.1 (callsIn_of_wp_marks (n := 1) (F := Fence.wide) Try.func5 rfl trivial (wpIn_wide.2 ?_) rfl)
  simp only [Try.ntmps5, List.size_toArray, List.length_cons, List.length_nil, Nat.reduceAdd, Nat.reduceSub, Array.replicate_succ, Array.replicate_zero, List.push_toArray, List.append_toArray, List.nil_append, List.cons_append]
  go_wp2_with fail
  rw [← HW.out]
  refine (awake_L S4.out).mono ?_
  rintro e w1 ⟨rfl, S1⟩
  obtain ⟨c0, c1, c2, c3, c4, c5⟩ := pcells (S1.out.get 2 rfl)
  go_wp2_with fail
  refine (all_any p w1).mono ?_
  rintro e w2 ⟨rfl, hw2⟩
  have S2 := hide (show Lie w.heap.size w w2 (box w1.heap.size (pobj p) :: [bbox (w.heap.size + 1 + 1) false 4, ibox (w.heap.size + 1) a 3, box w.heap.size (pobj p)]) by rw [hw2]; exact (S1.out.alloc (pobj p)))
  generalize w1.heap.size = pb at *
  clear hw2 c0 c1 c2 c3 c4 c5 S1
  go_wp2_with fail
  have S3 := hide (S2.out.alloc (.cells #[.int .i64 0] 3))
  obtain ⟨w3, hw3⟩ : ∃ w3, w3 = w2.alloc (.cells #[.int .i64 0] 3) := ⟨_, rfl⟩
  rw [← hw3] at S3 ⊢
  generalize w2.heap.size = ab at *
  clear S2 hw3 S4 HW
  generalize w.heap.size + 1 + 1 = rb at *
  generalize w.heap.size + 1 = lb at *
  obtain ⟨i0, fi0⟩ := cell1 (S3.out.get 0 rfl)
  refine wp_loop_rounds 3 ?_
  rw [rounds_succ]
  go_wp2_with fail
  have S4 := hide ((S3.out.alloc (.cells #[.int .i64 0] 3)).alloc (.cells #[.int .i64 0] 2))
  simp only [World.size_alloc] at S4
  obtain ⟨w4, hw4⟩ : ∃ w4, w4 = (w3.alloc (.cells #[.int .i64 0] 3)).alloc (.cells #[.int .i64 0] 2) := ⟨_, rfl⟩
  rw [← hw4] at S4 ⊢
  obtain ⟨sb, hsb⟩ : ∃ sb, sb = w3.heap.size + 1 := ⟨_, rfl⟩
  rw [← hsb] at S4 ⊢
  generalize w3.heap.size = nb at *
  clear hw4 hsb i0 fi0 S3
  have S5 := hide (show Lie w.heap.size w w4 ([box pb (pobj p)] ++ [ibox sb 0 2, ibox nb 0 3, ibox ab 0 3, bbox rb false 4, ibox lb a 3, box w.heap.size (pobj p)]) from S4.out.perm (List.perm_append_comm_assoc [ibox sb 0 2, ibox nb 0 3, ibox ab 0 3] [box pb (pobj p)] _))
  clear S4
  refine wp_rangeFuncL2 9 10 (gf := 18) (lb := #[.pointer (some ⟨pb, 0, none⟩)]) rfl enters18 (HIT.out pb w.heap.size) (AllsI p a 0 w.heap.size lb rb ab nb sb []) (AllsX p a 0 w.heap.size lb rb ab nb sb []) ⟨fun _ k h1 h2 => by simp at h2; omega, rfl⟩ S5.out ?assign ?body ?done ?stop
  case assign =>
    intro l m x W2 K hK
    simp only [asgAct, List.setIfInBounds_toArray, List.set_cons_zero, List.set_cons_succ] at hK
    gi_wp2
    exact hK
  case body =>
    clear S5
    rintro l m pre x us ks W2 hpre ⟨hno, rfl⟩ hL
    obtain ⟨⟨hk, hx1, hbo⟩, hs0, hs1, hs2, hs3⟩ := HX.out pre x hpre
    rw [sumOf_snoc] at hs2 hs3
    obtain ⟨i, b⟩ := x
    have HL := hide hL
    have HBO := hide hbo
    have HNO := hide hno
    have hst := hide (sumOf_snoc pre (i, b))
    have hpl := hide (show ((pre ++ [(i, b)]).length : Int) = (pre.length : Int) + 1 by simp)
    have hpn := hide (show (pre ++ [(i, b)]).length = pre.length + 1 by simp)
    clear hno
    generalize sumOf pre = s at *
    generalize pre.length = k at *
    simp only at hx1 hs2 hs3
    obtain rfl : i = (k : Int) + 1 := hx1
    obtain ⟨c0, c1, c2, c3, c4, c5⟩ := pcells (hL.get 5 rfl)
    obtain ⟨d0, g0⟩ := cell1 (hL.get 0 rfl)
    obtain ⟨d1, g1⟩ := cell1 (hL.get 1 rfl)
    obtain ⟨d2, g2⟩ := cell1 (hL.get 2 rfl)
    obtain ⟨d4, g4⟩ := cell1 (hL.get 4 rfl)
    have n10 : nb ≠ sb := hL.ne 1 0 rfl rfl (by decide)
    have n12 : nb ≠ ab := hL.ne 1 2 rfl rfl (by decide)
    have n14 : nb ≠ lb := hL.ne 1 4 rfl rfl (by decide)
    have n15 : nb ≠ w.heap.size := hL.ne 1 5 rfl rfl (by decide)
    clear hL hpre hbo
    simp only [asgAct, List.setIfInBounds_toArray, List.set_cons_zero, List.set_cons_succ]
    gi_wp2_with fail
    refine ⟨trivial, fun h => (by cases h), ?_⟩
    refine (CallsIn.inRound l (callsIn_wide.2 (dbase_L p ((k : Int) + 1) (HL.out.setBox 1 rfl 0 (.int .i64 ((k : Int) + 1)))))).mono ?_
    rintro e w5 ⟨rfl, L5⟩
    rw [HBO.out]
    simp only
    clear c0 c1 c2 c3 c4 c5 d0 g0 d1 g1 d2 g2 d4 g4 HBO HL
    obtain ⟨d0, g0⟩ := cell1 (L5.out.get 0 rfl)
    obtain ⟨d1, g1⟩ := cell1 (L5.out.get 1 rfl)
    obtain ⟨d2, g2⟩ := cell1 (L5.out.get 2 rfl)
    obtain ⟨d4, g4⟩ := cell1 (L5.out.get 4 rfl)
    have n01 : sb ≠ nb := fun h => n10 h.symm
    have n02 : sb ≠ ab := L5.out.ne 0 2 rfl rfl (by decide)
    have n04 : sb ≠ lb := L5.out.ne 0 4 rfl rfl (by decide)
    by_cases hne : (k : Int) + 1 = a
    · have hka : ((k : Int) + 1 == a) = true := beq_iff_eq.2 hne
      gi_wp2_with fail
      exact ⟨_, ⟨rfl, by rw [hpn.out]; omega, by rw [hpl.out]; exact hne, by unfold AllsC; rw [hst.out, hpl.out]⟩, L5.out.setBox 0 rfl 0 (.int .i64 (s + b))⟩
    · have hka : ((k : Int) + 1 == a) = false := beq_eq_false_iff_ne.2 hne
      gi_wp2_with fail
      exact ⟨_, ⟨fun _ => no_step hpn.out (HNO.out (by first | exact rfl | trivial)) (by omega), by unfold AllsC; rw [hst.out, hpl.out]⟩, L5.out.setBox 0 rfl 0 (.int .i64 (s + b))⟩
  case done =>
    rintro D ks W2 ⟨hno, rfl⟩ hL
    have hlen := HLEN.out
    exact absurd (show ((a.toNat : Nat) : Int) = a by omega) (hno rfl a.toNat (by omega) (by omega))
  case stop =>
    rintro D c pre ks W2 hpre ⟨rfl, hl1, hla, rfl⟩ hL
    have L6 := hide hL
    clear hL S5
    obtain ⟨d1, g1⟩ := cell1 (L6.out.get 3 rfl)
    obtain ⟨d2, g2⟩ := cell1 (L6.out.get 4 rfl)
    obtain ⟨d4, g4⟩ := cell1 (L6.out.get 6 rfl)
    obtain ⟨c0, c1, c2, c3, c4, c5⟩ := pcells (L6.out.get 7 rfl)
    have hlen := HLEN.out
    go_wp2_with fail
    have L7 := L6
    clear L6
    have L8 := hide (show Lie w.heap.size w (W2.alloc (.cells #[.int .i64 1] 3)) [ibox W2.heap.size 1 3, box D (.deferred (some [])), box pb (pobj p), bbox rb false 4, ibox lb a 3, box w.heap.size (pobj p)] from (((L7.out.erase 2).erase 2).erase 2).alloc _)
    clear L7
    obtain ⟨w6, hw6⟩ : ∃ w6, w6 = W2.alloc (.cells #[.int .i64 1] 3) := ⟨_, rfl⟩
    rw [← hw6] at L8 ⊢
    clear hw6 d2 g2 d1 g1 d4 g4 c0 c1 c2 c3 c4 c5
    generalize W2.heap.size = ab2 at *
    obtain ⟨i0, fi0⟩ := cell1 (L8.out.get 0 rfl)
    rw [rounds_succ]
    go_wp2_with fail
    have S4 := hide ((L8.out.alloc (.cells #[.int .i64 0] 3)).alloc (.cells #[.int .i64 0] 2))
    simp only [World.size_alloc] at S4
    obtain ⟨w4, hw4⟩ : ∃ w4, w4 = (w6.alloc (.cells #[.int .i64 0] 3)).alloc (.cells #[.int .i64 0] 2) := ⟨_, rfl⟩
    rw [← hw4] at S4 ⊢
    obtain ⟨sb2, hsb⟩ : ∃ sb2, sb2 = w6.heap.size + 1 := ⟨_, rfl⟩
    rw [← hsb] at S4 ⊢
    generalize w6.heap.size = nb2 at *
    clear hw4 hsb i0 fi0 L8
    have S5 := hide (show Lie w.heap.size w w4 ([box pb (pobj p)] ++ ([ibox sb2 0 2, ibox nb2 0 3, ibox ab2 1 3, bbox rb false 4, ibox lb a 3, box w.heap.size (pobj p)] ++ [box D (.deferred (some []))])) from S4.out.perm (perm_mid [ibox sb2 0 2, ibox nb2 0 3, ibox ab2 1 3] _ _ _))
    clear S4
    refine wp_rangeFuncL2 9 10 (gf := 18) (lb := #[.pointer (some ⟨pb, 0, none⟩)]) rfl enters18 (HIT.out pb w.heap.size) (AllsI p a 1 w.heap.size lb rb ab2 nb2 sb2 [box D (.deferred (some []))]) (fun _ _ _ => False) ⟨fun h => (by cases h), rfl⟩ S5.out ?assign ?body ?done ?stop
    case assign =>
      intro l m x W2 K hK
      simp only [asgAct, List.setIfInBounds_toArray, List.set_cons_zero, List.set_cons_succ] at hK
      gi_wp2
      exact hK
    case body =>
      clear S5
      rintro l m pre x us ks W2 hpre ⟨hno, rfl⟩ hL
      obtain ⟨⟨hk, hx1, hbo⟩, hs0, hs1, hs2, hs3⟩ := HX.out pre x hpre
      rw [sumOf_snoc] at hs2 hs3
      obtain ⟨i, b⟩ := x
      have HL := hide hL
      have HBO := hide hbo
      have HNO := hide hno
      have hst := hide (sumOf_snoc pre (i, b))
      have hpl := hide (show ((pre ++ [(i, b)]).length : Int) = (pre.length : Int) + 1 by simp)
      have hpn := hide (show (pre ++ [(i, b)]).length = pre.length + 1 by simp)
      clear hno
      generalize sumOf pre = s at *
      generalize pre.length = k at *
      simp only at hx1 hs2 hs3
      obtain rfl : i = (k : Int) + 1 := hx1
      obtain ⟨c0, c1, c2, c3, c4, c5⟩ := pcells (hL.get 5 rfl)
      obtain ⟨d0, g0⟩ := cell1 (hL.get 0 rfl)
      obtain ⟨d1, g1⟩ := cell1 (hL.get 1 rfl)
      obtain ⟨d2, g2⟩ := cell1 (hL.get 2 rfl)
      obtain ⟨d4, g4⟩ := cell1 (hL.get 4 rfl)
      have n10 : nb2 ≠ sb2 := hL.ne 1 0 rfl rfl (by decide)
      have n12 : nb2 ≠ ab2 := hL.ne 1 2 rfl rfl (by decide)
      have n14 : nb2 ≠ lb := hL.ne 1 4 rfl rfl (by decide)
      have n15 : nb2 ≠ w.heap.size := hL.ne 1 5 rfl rfl (by decide)
      clear hL hpre hbo
      simp only [asgAct, List.setIfInBounds_toArray, List.set_cons_zero, List.set_cons_succ]
      gi_wp2_with fail
      refine ⟨trivial, fun h => (by cases h), ?_⟩
      refine (CallsIn.inRound l (callsIn_wide.2 (dbase_L p ((k : Int) + 1) (HL.out.setBox 1 rfl 0 (.int .i64 ((k : Int) + 1)))))).mono ?_
      rintro e w5 ⟨rfl, L5⟩
      rw [HBO.out]
      simp only
      clear c0 c1 c2 c3 c4 c5 d0 g0 d1 g1 d2 g2 d4 g4 HBO HL
      obtain ⟨d0, g0⟩ := cell1 (L5.out.get 0 rfl)
      obtain ⟨d1, g1⟩ := cell1 (L5.out.get 1 rfl)
      obtain ⟨d2, g2⟩ := cell1 (L5.out.get 2 rfl)
      obtain ⟨d4, g4⟩ := cell1 (L5.out.get 4 rfl)
      have n01 : sb2 ≠ nb2 := fun h => n10 h.symm
      have n02 : sb2 ≠ ab2 := L5.out.ne 0 2 rfl rfl (by decide)
      have n04 : sb2 ≠ lb := L5.out.ne 0 4 rfl rfl (by decide)
      by_cases hne : (k : Int) + 1 = a
      · have hka : ((k : Int) + 1 == a) = true := beq_iff_eq.2 hne
        gi_wp2_with fail
        exact ⟨_, ⟨fun h => (by cases h), by unfold AllsC; rw [hst.out, hpl.out]⟩, L5.out.setBox 0 rfl 0 (.int .i64 (s + b))⟩
      · have hka : ((k : Int) + 1 == a) = false := beq_eq_false_iff_ne.2 hne
        gi_wp2_with fail
        exact ⟨_, ⟨fun h => (by cases h), by unfold AllsC; rw [hst.out, hpl.out]⟩, L5.out.setBox 0 rfl 0 (.int .i64 (s + b))⟩
    case stop =>
      rintro D2 c pre ks W2 _ h _
      exact h.elim
    case done =>
      rintro D2 ks W2 ⟨hno, rfl⟩ hL
      have L6 := hide hL
      clear hL S5
      obtain ⟨d1, g1⟩ := cell1 (L6.out.get 3 rfl)
      obtain ⟨d2, g2⟩ := cell1 (L6.out.get 4 rfl)
      obtain ⟨d4, g4⟩ := cell1 (L6.out.get 6 rfl)
      obtain ⟨c0, c1, c2, c3, c4, c5⟩ := pcells (L6.out.get 7 rfl)
      have hlen := HLEN.out
      clear hno
      go_wp2_with fail
      refine wp_region_noPanic ?_
      refine wp_region_held_drew (S := (fun w' => Lie w.heap.size w w' (box D2 (.deferred (some [])) :: ([box pb (pobj p)] ++ ([ibox sb2 (sumOf xs) 2, ibox nb2 xs.length 3, ibox ab2 1 3, box rb (.cells #[.bool false] 4 (0, 0)), ibox lb a 3, box w.heap.size (pobj p)] ++ [box D (.deferred (some []))]))))) (by kernel_rfl) L6.out.drew (fun hHeld => ?_)
      refine wpAnyH_take (i := 0) (oi := ?oi1) (v := ?v1) ?hi1 (by kernel_rfl) (by kernel_rfl) (by kernel_rfl) ?hQ1 ?hy1 hHeld ?rest1
      case hi1 => simp only [List.getElem?_toArray, List.getElem?_cons_zero]; rfl
      case hQ1 => exact fun _ _ _ h => h
      case hy1 =>
        refine Or.inl ⟨by rfl, ?_⟩
        intro w' hSw
        obtain ⟨c0, c1, c2, c3, c4, c5⟩ := pcells (hSw.get 7 rfl)
        go_simp
        try with_reducible rfl
      try simp only [Act.put, List.setIfInBounds_toArray, List.set_cons_zero, List.set_cons_succ]
      refine wpAnyH_ready (rs := [1]) (by kernel_rfl) (by simp) ?_
      refine AllReadyH.cons (o := ?oi2) ?hi2 ?st2 AllReadyH.nil
      case hi2 => simp only [List.getElem?_toArray, List.getElem?_cons_succ, List.getElem?_cons_zero]; rfl
      intro K hK
      go_simp
      go_at_call 15
      refine (rightY_L p HR.out hHeld).mono ?_
      rintro e wz ⟨rfl, SZ⟩
      try go_wp2_with fail
      refine hK.out _ _ SZ.out (fun hNew => ?_)
      clear hK K SZ hHeld
      have hHeld := hNew
      clear hNew
      try simp only [Act.put, List.setIfInBounds_toArray, List.set_cons_zero, List.set_cons_succ]
      refine wpAnyH_take (i := 2) (oi := ?oi3) (v := ?v3) ?hi3 (by kernel_rfl) (by kernel_rfl) (by kernel_rfl) ?hQ3 ?hy3 hHeld ?rest3
      case hi3 => simp only [List.getElem?_toArray, List.getElem?_cons_succ, List.getElem?_cons_zero]; rfl
      case hQ3 => exact fun _ _ _ h => h
      case hy3 =>
        refine Or.inl ⟨by rfl, ?_⟩
        intro w' hSw
        go_simp
        try with_reducible rfl
      try simp only [Act.put, List.setIfInBounds_toArray, List.set_cons_zero, List.set_cons_succ]
      refine wpAnyH_take (i := 3) (oi := ?oi4) (v := ?v4) ?hi4 (by kernel_rfl) (by kernel_rfl) (by kernel_rfl) ?hQ4 ?hy4 hHeld ?rest4
      case hi4 => simp only [List.getElem?_toArray, List.getElem?_cons_succ, List.getElem?_cons_zero]; rfl
      case hQ4 => exact fun _ _ _ h => h
      case hy4 =>
        refine Or.inl ⟨by rfl, ?_⟩
        intro w' hSw
        obtain ⟨d1, g1⟩ := cell1 (hSw.get 3 rfl)
        go_simp
        try with_reducible rfl
      try simp only [Act.put, List.setIfInBounds_toArray, List.set_cons_zero, List.set_cons_succ]
      refine wpAnyH_take (i := 4) (oi := ?oi5) (v := ?v5) ?hi5 (by kernel_rfl) (by kernel_rfl) (by kernel_rfl) ?hQ5 ?hy5 hHeld ?rest5
      case hi5 => simp only [List.getElem?_toArray, List.getElem?_cons_succ, List.getElem?_cons_zero]; rfl
      case hQ5 => exact fun _ _ _ h => h
      case hy5 =>
        refine Or.inl ⟨by rfl, ?_⟩
        intro w' hSw
        go_simp
        try with_reducible rfl
      try simp only [Act.put, List.setIfInBounds_toArray, List.set_cons_zero, List.set_cons_succ]
      refine wpAnyH_take (i := 5) (oi := ?oi6) (v := ?v6) ?hi6 (by kernel_rfl) (by kernel_rfl) (by kernel_rfl) ?hQ6 ?hy6 hHeld ?rest6
      case hi6 => simp only [List.getElem?_toArray, List.getElem?_cons_succ, List.getElem?_cons_zero]; rfl
      case hQ6 => exact fun _ _ _ h => h
      case hy6 =>
        refine Or.inl ⟨by rfl, ?_⟩
        intro w' hSw
        obtain ⟨c0, c1, c2, c3, c4, c5⟩ := pcells (hSw.get 7 rfl)
        rw [← hlen] at c5
        go_simp
        try with_reducible rfl
      try simp only [Act.put, List.setIfInBounds_toArray, List.set_cons_zero, List.set_cons_succ]
      refine wpAnyH_take (i := 6) (oi := ?oi7) (v := ?v7) ?hi7 (by kernel_rfl) (by kernel_rfl) (by kernel_rfl) ?hQ7 ?hy7 hHeld ?rest7
      case hi7 => simp only [List.getElem?_toArray, List.getElem?_cons_succ, List.getElem?_cons_zero]; rfl
      case hQ7 => exact fun _ _ _ h => h
      case hy7 =>
        refine Or.inl ⟨by rfl, ?_⟩
        intro w' hSw
        go_simp
        try with_reducible rfl
      try simp only [Act.put, List.setIfInBounds_toArray, List.set_cons_zero, List.set_cons_succ]
      refine wpAnyH_take (i := 7) (oi := ?oi8) (v := ?v8) ?hi8 (by kernel_rfl) (by kernel_rfl) (by kernel_rfl) ?hQ8 ?hy8 hHeld ?rest8
      case hi8 => simp only [List.getElem?_toArray, List.getElem?_cons_succ, List.getElem?_cons_zero]; rfl
      case hQ8 => exact fun _ _ _ h => h
      case hy8 =>
        refine Or.inl ⟨by rfl, ?_⟩
        intro w' hSw
        go_simp
        try with_reducible rfl
      try simp only [Act.put, List.setIfInBounds_toArray, List.set_cons_zero, List.set_cons_succ]
      refine wpAnyH_take (i := 8) (oi := ?oi9) (v := ?v9) ?hi9 (by kernel_rfl) (by kernel_rfl) (by kernel_rfl) ?hQ9 ?hy9 hHeld ?rest9
      case hi9 => simp only [List.getElem?_toArray, List.getElem?_cons_succ, List.getElem?_cons_zero]; rfl
      case hQ9 => exact fun _ _ _ h => h
      case hy9 =>
        refine Or.inl ⟨by rfl, ?_⟩
        intro w' hSw
        go_simp
        try with_reducible rfl
      try simp only [Act.put, List.setIfInBounds_toArray, List.set_cons_zero, List.set_cons_succ]
      refine wpAnyH_take (i := 9) (oi := ?oi10) (v := ?v10) ?hi10 (by kernel_rfl) (by kernel_rfl) (by kernel_rfl) ?hQ10 ?hy10 hHeld ?rest10
      case hi10 => simp only [List.getElem?_toArray, List.getElem?_cons_succ, List.getElem?_cons_zero]; rfl
      case hQ10 => exact fun _ _ _ h => h
      case hy10 =>
        refine Or.inl ⟨by rfl, ?_⟩
        intro w' hSw
        obtain ⟨c0, c1, c2, c3, c4, c5⟩ := pcells (hSw.get 7 rfl)
        go_simp
        try with_reducible rfl
      try simp only [Act.put, List.setIfInBounds_toArray, List.set_cons_zero, List.set_cons_succ]
      refine wpAnyH_ready (rs := [10]) (by kernel_rfl) (by simp) ?_
      refine AllReadyH.cons (o := ?oi11) ?hi11 ?st11 AllReadyH.nil
      case hi11 => simp only [List.getElem?_toArray, List.getElem?_cons_succ, List.getElem?_cons_zero]; rfl
      intro K hK
      go_simp
      go_at_call 15
      refine (rightY_L p HR.out hHeld).mono ?_
      rintro e wz ⟨rfl, SZ⟩
      try go_wp2_with fail
      refine hK.out _ _ SZ.out (fun hNew => ?_)
      clear hK K SZ hHeld
      have hHeld := hNew
      clear hNew
      try simp only [Act.put, List.setIfInBounds_toArray, List.set_cons_zero, List.set_cons_succ]
      refine wpAnyH_take (i := 11) (oi := ?oi12) (v := ?v12) ?hi12 (by kernel_rfl) (by kernel_rfl) (by kernel_rfl) ?hQ12 ?hy12 hHeld ?rest12
      case hi12 => simp only [List.getElem?_toArray, List.getElem?_cons_succ, List.getElem?_cons_zero]; rfl
      case hQ12 => exact fun _ _ _ h => h
      case hy12 =>
        refine Or.inl ⟨by rfl, ?_⟩
        intro w' hSw
        go_simp
        try with_reducible rfl
      try simp only [Act.put, List.setIfInBounds_toArray, List.set_cons_zero, List.set_cons_succ]
      refine wpAnyH_take (i := 12) (oi := ?oi13) (v := ?v13) ?hi13 (by kernel_rfl) (by kernel_rfl) (by kernel_rfl) ?hQ13 ?hy13 hHeld ?rest13
      case hi13 => simp only [List.getElem?_toArray, List.getElem?_cons_succ, List.getElem?_cons_zero]; rfl
      case hQ13 => exact fun _ _ _ h => h
      case hy13 =>
        refine Or.inl ⟨by rfl, ?_⟩
        intro w' hSw
        go_simp
        try with_reducible rfl
      try simp only [Act.put, List.setIfInBounds_toArray, List.set_cons_zero, List.set_cons_succ]
      refine wpAnyH_take (i := 13) (oi := ?oi14) (v := undef) ?hi14 (by kernel_rfl) (by kernel_rfl) (by kernel_rfl) ?hQ14 ?hy14 hHeld ?rest14
      case hi14 => simp only [List.getElem?_toArray, List.getElem?_cons_succ, List.getElem?_cons_zero]; rfl
      case hQ14 => exact fun _ _ _ h => h
      case hy14 => exact Or.inr ⟨by rfl, rfl⟩
      try simp only [Act.put, List.setIfInBounds_toArray, List.set_cons_zero, List.set_cons_succ]
      refine wpAnyH_take (i := 14) (oi := ?oi15) (v := undef) ?hi15 (by kernel_rfl) (by kernel_rfl) (by kernel_rfl) ?hQ15 ?hy15 hHeld ?rest15
      case hi15 => simp only [List.getElem?_toArray, List.getElem?_cons_succ, List.getElem?_cons_zero]; rfl
      case hQ15 => exact fun _ _ _ h => h
      case hy15 => exact Or.inr ⟨by rfl, rfl⟩
      try simp only [Act.put, List.setIfInBounds_toArray, List.set_cons_zero, List.set_cons_succ]
      refine wpAnyH_take (i := 15) (oi := ?oi16) (v := ?v16) ?hi16 (by kernel_rfl) (by kernel_rfl) (by kernel_rfl) ?hQ16 ?hy16 hHeld ?rest16
      case hi16 => simp only [List.getElem?_toArray, List.getElem?_cons_succ, List.getElem?_cons_zero]; rfl
      case hQ16 => exact fun _ _ _ h => h
      case hy16 =>
        refine Or.inl ⟨by rfl, ?_⟩
        intro w' hSw
        go_simp
        try with_reducible rfl
      try simp only [Act.put, List.setIfInBounds_toArray, List.set_cons_zero, List.set_cons_succ]
      refine wpAnyH_take (i := 16) (oi := ?oi17) (v := ?v17) ?hi17 (by kernel_rfl) (by kernel_rfl) (by kernel_rfl) ?hQ17 ?hy17 hHeld ?rest17
      case hi17 => simp only [List.getElem?_toArray, List.getElem?_cons_succ, List.getElem?_cons_zero]; rfl
      case hQ17 => exact fun _ _ _ h => h
      case hy17 =>
        refine Or.inl ⟨by rfl, ?_⟩
        intro w' hSw
        go_simp
        try with_reducible rfl
      try simp only [Act.put, List.setIfInBounds_toArray, List.set_cons_zero, List.set_cons_succ]
      refine wpAnyH_take (i := 17) (oi := ?oi18) (v := ?v18) ?hi18 (by kernel_rfl) (by kernel_rfl) (by kernel_rfl) ?hQ18 ?hy18 hHeld ?rest18
      case hi18 => simp only [List.getElem?_toArray, List.getElem?_cons_succ, List.getElem?_cons_zero]; rfl
      case hQ18 => exact fun _ _ _ h => h
      case hy18 =>
        refine Or.inl ⟨by rfl, ?_⟩
        intro w' hSw
        go_simp
        try with_reducible rfl
      try simp only [Act.put, List.setIfInBounds_toArray, List.set_cons_zero, List.set_cons_succ]
      refine wpAnyH_take (i := 18) (oi := ?oi19) (v := ?v19) ?hi19 (by kernel_rfl) (by kernel_rfl) (by kernel_rfl) ?hQ19 ?hy19 hHeld ?rest19
      case hi19 => simp only [List.getElem?_toArray, List.getElem?_cons_succ, List.getElem?_cons_zero]; rfl
      case hQ19 => exact fun _ _ _ h => h
      case hy19 =>
        refine Or.inl ⟨by rfl, ?_⟩
        intro w' hSw
        obtain ⟨d0, g0⟩ := cell1 (hSw.get 2 rfl)
        go_simp
        try with_reducible rfl
      try simp only [Act.put, List.setIfInBounds_toArray, List.set_cons_zero, List.set_cons_succ]
      refine wpAnyH_take (i := 19) (oi := ?oi20) (v := ?v20) ?hi20 (by kernel_rfl) (by kernel_rfl) (by kernel_rfl) ?hQ20 ?hy20 hHeld ?rest20
      case hi20 => simp only [List.getElem?_toArray, List.getElem?_cons_succ, List.getElem?_cons_zero]; rfl
      case hQ20 => exact fun _ _ _ h => h
      case hy20 =>
        refine Or.inl ⟨by rfl, ?_⟩
        intro w' hSw
        obtain ⟨c0, c1, c2, c3, c4, c5⟩ := pcells (hSw.get 7 rfl)
        go_simp
        try with_reducible rfl
      try simp only [Act.put, List.setIfInBounds_toArray, List.set_cons_zero, List.set_cons_succ]
      refine wpAnyH_ready (rs := [20]) (by kernel_rfl) (by simp) ?_
      refine AllReadyH.cons (o := ?oi21) ?hi21 ?st21 AllReadyH.nil
      case hi21 => simp only [List.getElem?_toArray, List.getElem?_cons_succ, List.getElem?_cons_zero]; rfl
      intro K hK
      go_simp
      go_at_call 11
      refine (total_Ls p HTOT.out hHeld).mono ?_
      rintro e wz ⟨rfl, SZ⟩
      try go_wp2_with fail
      refine hK.out _ _ SZ.out (fun hNew => ?_)
      clear hK K SZ hHeld
      have hHeld := hNew
      clear hNew
      try simp only [Act.put, List.setIfInBounds_toArray, List.set_cons_zero, List.set_cons_succ]
      refine wpAnyH_take (i := 21) (oi := ?oi22) (v := ?v22) ?hi22 (by kernel_rfl) (by kernel_rfl) (by kernel_rfl) ?hQ22 ?hy22 hHeld ?rest22
      case hi22 => simp only [List.getElem?_toArray, List.getElem?_cons_succ, List.getElem?_cons_zero]; rfl
      case hQ22 => exact fun _ _ _ h => h
      case hy22 =>
        refine Or.inl ⟨by rfl, ?_⟩
        intro w' hSw
        go_simp
        try with_reducible rfl
      try simp only [Act.put, List.setIfInBounds_toArray, List.set_cons_zero, List.set_cons_succ]
      refine wpAnyH_take (i := 22) (oi := ?oi23) (v := ?v23) ?hi23 (by kernel_rfl) (by kernel_rfl) (by kernel_rfl) ?hQ23 ?hy23 hHeld ?rest23
      case hi23 => simp only [List.getElem?_toArray, List.getElem?_cons_succ, List.getElem?_cons_zero]; rfl
      case hQ23 => exact fun _ _ _ h => h
      case hy23 =>
        refine Or.inl ⟨by rfl, ?_⟩
        intro w' hSw
        go_simp
        try with_reducible rfl
      try simp only [Act.put, List.setIfInBounds_toArray, List.set_cons_zero, List.set_cons_succ]
      refine wpAnyH_done (by kernel_rfl) ?_ _
      refine NoPanic.normal ?_
      clear d1 g1 d2 g2 d4 g4 c0 c1 c2 c3 c4 c5 L6
      obtain ⟨d2, g2⟩ := cell1 (hHeld.get 4 rfl)
      have L7 := hide hHeld
      go_wp2_with fail
      have L8 := hide (L7.out.skip (.cells #[.int .i64 2] 3))
      have L9 := hide (L7.out.alloc (.cells #[.int .i64 2] 3))
      obtain ⟨w6, hw6⟩ : ∃ w6, w6 = wz.alloc (.cells #[.int .i64 2] 3) := ⟨_, rfl⟩
      rw [← hw6] at L8 L9 ⊢
      clear hw6 d2 g2
      obtain ⟨i0, fi0⟩ := cell1 (L9.out.get 0 rfl)
      obtain ⟨j0, fj0⟩ := cell1 (L8.out.get 5 rfl)
      rw [rounds_succ]
      go_wp2_with fail
      have F1 := L8.out.setBox 5 rfl 0 (.bool true)
      have hK : _ = _ := F1.get 0 rfl
      have F2 := F1.put 0 rfl (.deferred none)
      have hK2 : _ = _ := F2.get 8 rfl
      have F3 := F2.put 8 rfl (.deferred none)
      obtain ⟨y0, _⟩ := cell1 (F3.get 5 rfl)
      refine ⟨by simp, .inl ⟨_, _, rfl, run_takeDeferred hK, by simp, .inl ⟨_, _, rfl, run_takeDeferred hK2, ?_⟩⟩⟩
      refine ⟨.bool true, ?_, rfl, F3.below⟩
      simp [results, Try.f5, go_sem, y0]
end Go.Proofs.Ytdgoofchadfepaa
