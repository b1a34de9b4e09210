/-
  NetPlays: the walk.
-/
import Derived.Test.YtniiikgkeiomoaaBoth
import Derived.Deep.LoopGhost
namespace Go.Proofs.Ytniiikgkeiomoaa
open Go.RowKit Go.Maps

/-- In the loop over the acts. -/
def ActsInv (w : World) (dn k : Nat) (v : Value) (wr : World) : Prop := ∃ nb ps ws C, v = .pointer (some ⟨nb, 0, none⟩) ∧ PlayS w.heap.size w dn nb k ps ws C wr
/-- In the last loop. -/
def DrainInv (w : World) (dn nb g : Nat) (wr : World) : Prop := ∃ ps ws C v1 v2, ps.length = g ∧ SameCuts ws C ∧ ps.length ≤ 200 ∧ ws.length ≤ 200 ∧ Lie w.heap.size w wr (docT w.heap.size dn v1 v2 ps ws [net w.heap.size (some nb) ps C])

set_option maxRecDepth 100000 in
set_option maxHeartbeats 8000000 in
theorem plays_some (vl : Value) (l : List Ac) (w : World) (hl : Rd w 6 vl l.length (l.flatMap acCells)) (hm : l.length ≤ maxLen) (hok : ∀ x ∈ l, x.ok ∧ (Lit.int .i64 x.i).wf = true) :
    Calls Try.prog 9 #[vl, .bool false] w fun e w' => e = .returned (.bool true) ∧ Below w.heap.size w w' := by
  have hm0 := hm
  replace hm : l.length ≤ 9223372036854775807 := by unfold maxLen at hm; omega
  have HR := hide hl
  have HOK := hide hok
  have HM := hide hm0
  obtain ⟨A, cA, rfl⟩ := hl.shape
  clear hl hok hm0
  go_enter Try.func9, Try.ntmps9
  go_wp2_with fail
  refine (awake_any w).mono ?_
  rintro e w0 ⟨rfl, hb0⟩
  go_wp2_with fail
  refine (great_any _ l w0 (HR.out.below hb0) HM.out (fun x hx => (HOK.out x hx).1)).mono ?_
  rintro e w0' ⟨b, rfl, hb, rfl⟩
  cases b with
  | true =>
    go_wp2_with fail
    go_ret
    exact ⟨rfl, hb0⟩
  | false =>
    have h200 := hb rfl
    clear hb
    go_wp2_with fail
    refine (new_any ((Lie.start w).of_below hb0)).mono ?_
    rintro e w1 ⟨rfl, s1⟩
    generalize w0.heap.size + 1 = nb at *
    unfold ptr
    clear hb0
    have S1 := hide s1
    clear s1
    go_wp2_with fail
    refine (dnew_any S1.out).mono ?_
    rintro e w2 ⟨rfl, s2⟩
    generalize w1.heap.size = dn at *
    unfold ptr
    have P0 : ActsInv w dn 0 (.pointer (some ⟨nb, 0, none⟩)) w2 := ⟨nb, [], [], Cuts.none, rfl, SameCuts.none, Nat.le_refl _, Nat.le_refl _, Nat.le_refl _, _, _, s2⟩
    clear s2 S1
    go_wp2_with fail
    go_loopw [5, 7] (fun v i wr => ∃ (k : Nat) (nb : Nat), k ≤ l.length ∧ i = .int .i64 k ∧ v = .pointer (some ⟨nb, 0, none⟩) ∧ ActsInv w dn k (.pointer (some ⟨nb, 0, none⟩)) wr) (fun _ i _ => l.length - (intOf i).toNat)
    case atStart => exact ⟨0, nb, by omega, rfl, rfl, P0⟩
    case round =>
      clear P0
      obtain ⟨k, nb, hk, rfl, rfl, nb', ps, ws, C, hv, hP⟩ := hrel
      injection hv with hv
      injection hv with hv
      injection hv with hv
      subst hv
      by_cases hlt : k < l.length
      · obtain ⟨v1, v2, hS⟩ := hP.lie
        obtain ⟨bl, ol, rfl, hbl, q0, q1, q2, q3, q4, q5⟩ := rd_ac (HR.out.below hS.below) k hlt
        have hx := HOK.out _ (List.getElem_mem hlt)
        have hki : (k : Int) < (l.length : Int) := by omega
        have HX := hide hx
        have hlen := hP.len
        have hcn := hP.cuts
        have hwn := hP.ways
        have HP := hide hP
        have S1 := hide hS
        have hxx := hide (show l[k] = l[k] from rfl)
        generalize hxk : l[k] = x at *
        have HXK := hide hxk
        clear hS hx hP hxk hxx
        by_cases h5 : x.do_ = 5
        · have d5 : (x.do_ == 5) = true := by simpa using h5
          clear h5
          go_wp2_with fail
          refine (twin_any S1.out 3 (some nb) ps C rfl (by omega)).mono ?_
          rintro e w3 ⟨o, ho, rfl, s3⟩
          obtain ⟨tb, rfl⟩ := Option.isSome_iff_exists.1 ho
          unfold ptr
          obtain ⟨bl', ol', hbo, hbl3, r0, r1, r2, r3, r4, r5⟩ := rd_ac (HR.out.below s3.below) k hlt
          injection hbo with hbo
          injection hbo with e1 e2
          subst e1 e2
          rw [HXK.out] at r0 r1 r2 r3 r4 r5
          have S3 := hide s3
          clear s3 ho q0 q1 q2 q3 q4 q5 hbl
          go_wp2_with fail
          refine (lose_any S3.out 4 (some nb) ps C rfl x.i (by omega)).mono ?_
          rintro e w4 ⟨rfl, s4⟩
          simp only [List.set] at s4
          obtain ⟨bl', ol', hbo, hbl4, r0, r1, r2, r3, r4, r5⟩ := rd_ac (HR.out.below s4.below) k hlt
          injection hbo with hbo
          injection hbo with e1 e2
          subst e1 e2
          rw [HXK.out] at r0 r1 r2 r3 r4 r5
          have S4 := hide s4
          clear s4
          go_wp2_with fail
          obtain ⟨wq, hwq⟩ : ∃ wq : World, wq = w4.drew := ⟨_, rfl⟩
          have HWQ := hide hwq
          clear hwq
          go_still_tail 13, (by kernel_rfl)
          change wpList _ _ _ _ _ w4.drew
          rw [← HWQ.out]
          go_wp2_with fail
          refine (cut_any (show Lie w.heap.size w wq _ by rw [HWQ.out]; exact S4.out.drew) 4 (some nb) (lostTo ps x.i) C rfl x.p.from_ x.p.to_ true (by unfold maxLen; omega) HX.out.1.1.1 HX.out.1.1.2).mono ?_
          rintro e w5 ⟨rfl, s5⟩
          simp only [List.set] at s5
          obtain ⟨bl', ol', hbo, hbl5, r0, r1, r2, r3, r4, r5⟩ := rd_ac (HR.out.below s5.below) k hlt
          injection hbo with hbo
          injection hbo with e1 e2
          subst e1 e2
          rw [HXK.out] at r0 r1 r2 r3 r4 r5
          have S5 := hide s5
          clear s5 HWQ
          go_wp2_with fail
          refine (send_any S5.out 4 (some nb) (lostTo ps x.i) _ rfl x.p HX.out.1.1).mono ?_
          rintro e w6 ⟨rfl, s6⟩
          simp only [List.set] at s6
          obtain ⟨bl', ol', hbo, hbl6, r0, r1, r2, r3, r4, r5⟩ := rd_ac (HR.out.below s6.below) k hlt
          injection hbo with hbo
          injection hbo with e1 e2
          subst e1 e2
          rw [HXK.out] at r0 r1 r2 r3 r4 r5
          have s7 := (s6.erase 4).pick (us := docT w.heap.size dn v1 v2 ps ws [net w.heap.size (some tb) ps C]) (fun i => if i = 3 then 0 else i + 1) (fun i j hi hj e => by
            simp only [docT, List.length_cons, List.length_nil] at hi hj
            by_cases a : i = 3 <;> by_cases b : j = 3 <;> simp [a, b] at e <;> omega) (fun i u hu => by
            match i with
            | 0 => exact hu
            | 1 => exact hu
            | 2 => exact hu
            | 3 => exact hu
            | i + 4 => simp [docT] at hu)
          have P7 : Hid (PlayS w.heap.size w dn tb k ps ws C w6) := hide ⟨HP.out.same, HP.out.len, HP.out.cuts, HP.out.ways, _, _, s7⟩
          clear s6 s7 S3 S4 S5
          go_wp2_with fail
          refine (both_some P7.out (by omega) x HX.out.1 HX.out.2).mono ?_
          rintro e w8 ⟨rfl, ps8, ws8, C8, P8⟩
          obtain ⟨v8, v9, s8⟩ := P8.lie
          have S8 := hide s8
          have HP8 := hide P8
          clear s8 P8 r0 r1 r2 r3 r4 r5
          go_wp2_with fail
          refine (waiting_any S8.out 3 (some tb) ps8 C8 rfl).mono ?_
          rintro e w' ⟨rfl, rfl⟩
          go_wp2_with fail
          refine (dwaiting S8.out).mono ?_
          rintro e w' ⟨rfl, rfl⟩
          go_wp2_with fail
          go_roundw
          case rel => exact ⟨k + 1, tb, by omega, by go_num, rfl, tb, ps8, ws8, C8, rfl, HP8.out⟩
          case measure => simp [intOf]; omega
        · have d5 : (x.do_ == 5) = false := by simpa using h5
          clear h5
          go_wp2_with fail
          refine (both_some HP.out (by omega) x HX.out.1 HX.out.2).mono ?_
          rintro e w8 ⟨rfl, ps8, ws8, C8, P8⟩
          obtain ⟨v8, v9, s8⟩ := P8.lie
          have S8 := hide s8
          have HP8 := hide P8
          clear s8 P8 q0 q1 q2 q3 q4 q5
          go_wp2_with fail
          refine (waiting_any S8.out 3 (some nb) ps8 C8 rfl).mono ?_
          rintro e w' ⟨rfl, rfl⟩
          go_wp2_with fail
          refine (dwaiting S8.out).mono ?_
          rintro e w' ⟨rfl, rfl⟩
          go_wp2_with fail
          go_roundw
          case rel => exact ⟨k + 1, nb, by omega, by go_num, rfl, nb, ps8, ws8, C8, rfl, HP8.out⟩
          case measure => simp [intOf]; omega
      · obtain ⟨v1, v2, hS⟩ := hP.lie
        have D0 : DrainInv w dn nb ps.length wr := ⟨ps, ws, C, v1, v2, rfl, hP.same, by have := hP.len; omega, by have := hP.ways; omega, hS⟩
        clear hS hP
        go_wp2_with fail
        obtain ⟨wo, rfl⟩ : ∃ wo : World, wo = wr := ⟨_, rfl⟩
        go_loopg [9] ps.length (fun g p wr => DrainInv w dn nb g wr)
        case atStart => exact D0
        case round =>
          clear D0
          obtain ⟨ps, ws, C, v1, v2, hg, same, hpl, hwl, s⟩ := hrel
          have SAME := hide same
          have S3 := hide s
          clear s same
          cases ps with
          | nil =>
            go_wp2_with fail
            refine (dwaiting S3.out).mono ?_
            rintro e w' ⟨rfl, rfl⟩
            rw [show (([] : List Pk).length : Int) = 0 from rfl]
            go_wp2_with fail
            refine (waiting_any S3.out 3 (some nb) [] C rfl).mono ?_
            rintro e w' ⟨rfl, rfl⟩
            rw [show (([] : List Pk).length : Int) = 0 from rfl]
            go_wp2_with fail
            go_ret
            exact ⟨rfl, S3.out.below⟩
          | cons p pr =>
            simp only [List.length_cons] at hg hpl
            have hpos : (0 : Int) < ((p :: pr).length : Int) := by simp only [List.length_cons]; omega
            go_wp2_with fail
            refine (dwaiting S3.out).mono ?_
            rintro e w' ⟨rfl, rfl⟩
            go_wp2_with fail
            refine (come_any S3.out 3 (some nb) (p :: pr) C rfl 0 (by simp only [List.length_cons]; omega)).mono ?_
            rintro e w4 ⟨rfl, s4⟩
            rw [lost0] at s4
            simp only [List.set] at s4
            have hcome : comeOf C (p :: pr) 0 = dtold ws p := by rw [come0]; unfold dtold; rw [SAME.out.of]
            rw [hcome]
            have HD := hide (fun (v1 v2 : Value) (ts : List Thing) (w9 : World) (h : Lie w.heap.size w w9 (docT w.heap.size dn v1 v2 (p :: pr) ws ts)) => dcome h 0 (by simp) (by simp only [List.length_cons]; omega) (by omega) (by decide) 0 (at_zero _).symm (by simp))
            rw [show (p :: pr)[0] = p from rfl, show (p :: pr).eraseIdx 0 = pr from rfl] at HD
            clear hcome
            by_cases hc : isCut ws p.from_ p.to_ = true
            · have e1 : dtold ws p = none := by unfold dtold; rw [if_pos hc]
              have heq := fun w => run_neq_pk_self ⟨0, 0, ⟨#[]⟩⟩ w
              rw [e1] at HD ⊢
              clear hc e1
              rw [told_none]
              have s4' := doc_alloc s4 (.cells #[.int .i64 0, .int .i64 0, .string ⟨#[]⟩] 25)
              have S4 := hide s4'
              obtain ⟨a0, a1, a2, _⟩ := cell3 (s4'.get 3 rfl)
              clear s4 s4' S3
              go_wp2_with fail
              refine (HD.out _ _ _ _ S4.out).mono ?_
              rintro e w5 ⟨rfl, v3, v4, s5⟩
              rw [told_none]
              have s5' := doc_alloc s5 (.cells #[.int .i64 0, .int .i64 0, .string ⟨#[]⟩] 25)
              have S5 := hide s5'
              obtain ⟨f0, f1, f2, _⟩ := cell3 (s5'.get 3 rfl)
              obtain ⟨g0, g1, g2, _⟩ := cell3 (s5'.get 4 rfl)
              clear s5 s5' a0 a1 a2
              go_wp2_with fail
              refine (waiting_any S5.out 5 (some nb) pr C rfl).mono ?_
              rintro e w' ⟨rfl, rfl⟩
              go_wp2_with fail
              refine (dwaiting S5.out).mono ?_
              rintro e w' ⟨rfl, rfl⟩
              go_wp2_with fail
              go_roundg pr.length
              case measure => omega
              case rel => exact ⟨pr, ws, C, _, _, rfl, SAME.out, by omega, hwl, (S5.out.erase 3).erase 3⟩
            · have e1 : dtold ws p = some p := by unfold dtold; rw [if_neg hc]
              have heq := fun w => run_neq_pk_self p w
              rw [e1] at HD ⊢
              clear hc e1
              rw [told_some]
              have s4' := doc_alloc s4 (.cells #[.int .i64 p.from_, .int .i64 p.to_, .string p.data] 25)
              have S4 := hide s4'
              obtain ⟨a0, a1, a2, _⟩ := cell3 (s4'.get 3 rfl)
              clear s4 s4' S3
              go_wp2_with fail
              refine (HD.out _ _ _ _ S4.out).mono ?_
              rintro e w5 ⟨rfl, v3, v4, s5⟩
              rw [told_some]
              have s5' := doc_alloc s5 (.cells #[.int .i64 p.from_, .int .i64 p.to_, .string p.data] 25)
              have S5 := hide s5'
              obtain ⟨f0, f1, f2, _⟩ := cell3 (s5'.get 3 rfl)
              obtain ⟨g0, g1, g2, _⟩ := cell3 (s5'.get 4 rfl)
              clear s5 s5' a0 a1 a2
              go_wp2_with fail
              refine (waiting_any S5.out 5 (some nb) pr C rfl).mono ?_
              rintro e w' ⟨rfl, rfl⟩
              go_wp2_with fail
              refine (dwaiting S5.out).mono ?_
              rintro e w' ⟨rfl, rfl⟩
              go_wp2_with fail
              go_roundg pr.length
              case measure => omega
              case rel => exact ⟨pr, ws, C, _, _, rfl, SAME.out, by omega, hwl, (S5.out.erase 3).erase 3⟩

set_option maxRecDepth 100000 in
set_option maxHeartbeats 8000000 in
theorem plays_none (vl : Value) (l : List Ac) (w : World) (hl : Rd w 6 vl l.length (l.flatMap acCells)) (hm : l.length ≤ maxLen) (hok : ∀ x ∈ l, x.ok ∧ (Lit.int .i64 x.i).wf = true) :
    Calls Try.prog 9 #[vl, .bool true] w fun e w' => e = .returned (.bool true) ∧ Below w.heap.size w w' := by
  have hm0 := hm
  replace hm : l.length ≤ 9223372036854775807 := by unfold maxLen at hm; omega
  have HR := hide hl
  have HOK := hide hok
  have HM := hide hm0
  obtain ⟨A, cA, rfl⟩ := hl.shape
  clear hl hok hm0
  go_enter Try.func9, Try.ntmps9
  go_wp2_with fail
  refine (awake_any w).mono ?_
  rintro e w0 ⟨rfl, hb0⟩
  go_wp2_with fail
  refine (great_any _ l w0 (HR.out.below hb0) HM.out (fun x hx => (HOK.out x hx).1)).mono ?_
  rintro e w0' ⟨b, rfl, hb, rfl⟩
  cases b with
  | true =>
    go_wp2_with fail
    go_ret
    exact ⟨rfl, hb0⟩
  | false =>
    clear hb
    go_wp2_with fail
    refine (new_any ((Lie.start w).of_below hb0)).mono ?_
    rintro e w1 ⟨rfl, s1⟩
    generalize w0.heap.size + 1 = nb at *
    unfold ptr
    clear hb0
    have S1 := hide s1.pop
    clear s1
    go_wp2_with fail
    refine (dnew_any S1.out).mono ?_
    rintro e w2 ⟨rfl, s2⟩
    generalize w1.heap.size = dn at *
    unfold ptr
    have P0 : Lie w.heap.size w w2 [] := s2.pop.pop.pop
    clear s2 S1
    go_wp2_with fail
    go_loopw [5, 7] (fun v i wr => ∃ (k : Nat), k ≤ l.length ∧ i = .int .i64 k ∧ v = .pointer none ∧ Lie w.heap.size w wr []) (fun _ i _ => l.length - (intOf i).toNat)
    case atStart => exact ⟨0, by omega, rfl, rfl, P0⟩
    case round =>
      clear P0
      obtain ⟨k, hk, rfl, rfl, s⟩ := hrel
      by_cases hlt : k < l.length
      · obtain ⟨bl, ol, rfl, hbl, q0, q1, q2, q3, q4, q5⟩ := rd_ac (HR.out.below s.below) k hlt
        have hx := HOK.out _ (List.getElem_mem hlt)
        have hki : (k : Int) < (l.length : Int) := by omega
        have HX := hide hx
        have S := hide s
        generalize hxk : l[k] = x at *
        have HXK := hide hxk
        clear s hx hxk
        by_cases h5 : x.do_ = 5
        · have d5 : (x.do_ == 5) = true := by simpa using h5
          clear h5
          go_wp2_with fail
          refine (twin_nil wr).mono ?_
          rintro e w' ⟨rfl, rfl⟩
          go_wp2_with fail
          refine (lose_empty 0 none x.i _ (.inl rfl)).mono ?_
          rintro e w4 ⟨rfl, t4⟩
          have s4 := S.out.stay t4
          obtain ⟨bl', ol', hbo, hbl4, r0, r1, r2, r3, r4, r5⟩ := rd_ac (HR.out.below s4.below) k hlt
          injection hbo with hbo
          injection hbo with e1 e2
          subst e1 e2
          rw [HXK.out] at r0 r1 r2 r3 r4 r5
          have S4 := hide s4
          clear s4 t4
          go_wp2_with fail
          obtain ⟨wq, hwq⟩ : ∃ wq : World, wq = w4.drew := ⟨_, rfl⟩
          have HWQ := hide hwq
          clear hwq
          go_still_tail 13, (by kernel_rfl)
          change wpList _ _ _ _ _ w4.drew
          rw [← HWQ.out]
          go_wp2_with fail
          refine (cut_nil x.p.from_ x.p.to_ true wq).mono ?_
          rintro e w5 ⟨rfl, t5⟩
          have s5 : Lie w.heap.size w w5 [] := (show Lie w.heap.size w wq [] by rw [HWQ.out]; exact S4.out.drew).stay t5
          obtain ⟨bl', ol', hbo, hbl5, r0, r1, r2, r3, r4, r5⟩ := rd_ac (HR.out.below s5.below) k hlt
          injection hbo with hbo
          injection hbo with e1 e2
          subst e1 e2
          rw [HXK.out] at r0 r1 r2 r3 r4 r5
          have S5 := hide s5
          clear s5 HWQ t5
          go_wp2_with fail
          refine (send_nil x.p w5).mono ?_
          rintro e w6 ⟨rfl, t6⟩
          have s6 := S5.out.stay t6
          obtain ⟨bl', ol', hbo, hbl6, r0, r1, r2, r3, r4, r5⟩ := rd_ac (HR.out.below s6.below) k hlt
          injection hbo with hbo
          injection hbo with e1 e2
          subst e1 e2
          rw [HXK.out] at r0 r1 r2 r3 r4 r5
          have S6 := hide s6
          clear s6 t6 S4 S5
          go_wp2_with fail
          refine (both_none x w6).mono ?_
          rintro e w8 ⟨rfl, t8⟩
          have S8 := hide (S6.out.stay t8)
          clear t8 r0 r1 r2 r3 r4 r5
          go_wp2_with fail
          refine (waiting_nil w8).mono ?_
          rintro e w' ⟨rfl, rfl⟩
          go_wp2_with fail
          refine (dwaiting_nil w8).mono ?_
          rintro e w' ⟨rfl, rfl⟩
          go_wp2_with fail
          go_roundw
          case rel => exact ⟨k + 1, by omega, by go_num, rfl, S8.out⟩
          case measure => simp [intOf]; omega
        · have d5 : (x.do_ == 5) = false := by simpa using h5
          clear h5
          go_wp2_with fail
          refine (both_none x wr).mono ?_
          rintro e w8 ⟨rfl, t8⟩
          have S8 := hide (S.out.stay t8)
          clear t8 q0 q1 q2 q3 q4 q5
          go_wp2_with fail
          refine (waiting_nil w8).mono ?_
          rintro e w' ⟨rfl, rfl⟩
          go_wp2_with fail
          refine (dwaiting_nil w8).mono ?_
          rintro e w' ⟨rfl, rfl⟩
          go_wp2_with fail
          go_roundw
          case rel => exact ⟨k + 1, by omega, by go_num, rfl, S8.out⟩
          case measure => simp [intOf]; omega
      · have S := hide s
        clear s
        go_wp2_with fail
        obtain ⟨wo, rfl⟩ : ∃ wo : World, wo = wr := ⟨_, rfl⟩
        go_loopg [9] 0 (fun g p wr => wr = wo)
        case atStart => rfl
        case round =>
          subst hrel
          go_wp2_with fail
          refine (dwaiting_nil _).mono ?_
          rintro e w' ⟨rfl, rfl⟩
          go_wp2_with fail
          refine (waiting_nil _).mono ?_
          rintro e w' ⟨rfl, rfl⟩
          go_wp2_with fail
          go_ret
          exact ⟨rfl, S.out.below⟩
theorem plays_any (vl : Value) (l : List Ac) (none : Bool) (w : World) (hl : Rd w 6 vl l.length (l.flatMap acCells)) (hm : l.length ≤ maxLen) (hok : ∀ x ∈ l, x.ok ∧ (Lit.int .i64 x.i).wf = true) :
    Calls Try.prog 9 #[vl, .bool none] w fun e w' => e = .returned (.bool true) ∧ Below w.heap.size w w' := by
  cases none with
  | false => exact plays_some vl l w hl hm hok
  | true => exact plays_none vl l w hl hm hok
end Go.Proofs.Ytniiikgkeiomoaa
